/-
  Maps: an object that is turned; what the operations on maps do.
-/
import Derived.Test.YtcfalmdfohphoaaDoorM6
import Derived.Maps.Keyed
import Derived.Laws.IdiomRangeMap
import Derived.WideKeyPair
import Derived.DeepKeys3
namespace Go.Ab
open Go Go.ChangeMaps Go.Maps
theorem rel_ptr_map {c : Cx} {tok off : Nat} {i : MI} {vs : List AV} {v : Value} (h0 : c.A[tok]? = some (.mapo i vs)) (h : Rel c (.ptr tok off) v) : ∃ b, c.ρ tok = some b ∧ v = MI.val b i.isIter := by
  unfold Rel at h; rw [h0] at h; exact h
theorem rel_map_ptr {c : Cx} {tok off b : Nat} {i : MI} {vs : List AV} (h0 : c.A[tok]? = some (.mapo i vs)) (h : c.ρ tok = some b) : Rel c (.ptr tok off) (MI.val b i.isIter) := by
  unfold Rel; rw [h0]; exact ⟨b, h, rfl⟩
/-! ### an object of the model's own is turned -/
def Cx.wrO (c : Cx) (tok b : Nat) (ob : Obj) (o : AO) : Cx := { c with w := { c.w with heap := c.w.heap.setIfInBounds b ob }, A := c.A.set tok o }
section
variable {c : Cx} {tok b : Nat} {ob : Obj} {i j : MI} {vs us : List AV}
theorem wrO_other {o : AO} {k : Nat} (h : k ≠ b) : (c.wrO tok b ob o).w.heap[k]? = c.w.heap[k]? := by
  show (c.w.heap.setIfInBounds b ob)[k]? = _
  rw [Array.getElem?_setIfInBounds_ne (fun e => h e.symm)]
theorem wrO_self {o : AO} (h : b < c.w.heap.size) : (c.wrO tok b ob o).w.heap[b]? = some ob := by
  show (c.w.heap.setIfInBounds b ob)[b]? = _
  rw [Array.getElem?_setIfInBounds_self]; simp [h]
theorem wrO_live (h0 : c.A[tok]? = some (.mapo i vs)) {t : Nat} (h : (c.wrO tok b ob (.mapo j us)).live t) : c.live t := by
  obtain ⟨x, h1, h2⟩ := h
  by_cases ht : tok = t
  · subst ht; exact ⟨_, h0, rfl⟩
  · refine ⟨x, ?_, h2⟩
    have : (c.A.set tok (.mapo j us))[t]? = some x := h1
    rwa [List.getElem?_set_ne ht] at this
theorem ext_wrO (H : HR c) (h0 : c.A[tok]? = some (.mapo i vs)) (hk : i.isIter = j.isIter) (hr : c.ρ tok = some b) : Ext c (c.wrO tok b ob (.mapo j us)) := by
  have hlive : c.live tok := ⟨_, h0, rfl⟩
  have hX := H.far tok b hlive hr
  refine ⟨⟨fun k hI hk => ⟨⟨hI.1, fun t ht => hI.2 t (wrO_live h0 ht)⟩, wrO_other (fun e => ?_)⟩, fun t ht => ?_, by show _ ≤ (c.A.set tok _).length; simp⟩, rfl, rfl, fun k hk => wrO_other (fun e => ?_), ⟨rfl, rfl, rfl⟩⟩
  · subst e; exact hI.2 tok hlive hr
  · unfold TokLe
    by_cases htt : tok = t
    · subst htt
      have : (c.wrO tok b ob (.mapo j us)).A[tok]? = some (.mapo j us) := by show (c.A.set tok _)[tok]? = _; rw [List.getElem?_set_self ht]
      rw [this]
      exact .inl ⟨⟨i, vs, h0, hk⟩, rfl⟩
    · have : (c.wrO tok b ob (.mapo j us)).A[t]? = c.A[t]? := by show (c.A.set tok _)[t]? = _; rw [List.getElem?_set_ne htt]
      rw [this]
      have ht0 := TokLe.refl ht
      unfold TokLe at ht0
      cases hA : c.A[t]? with
      | none => rw [hA] at ht0; exact ht0
      | some x =>
        rw [hA] at ht0
        cases x with
        | dead => trivial
        | room => exact ht0
        | box vs => exact ht0
        | mapo i vs => exact ht0
        | row e xs =>
          simp only at ht0 ⊢
          rcases ht0 with ht0 | ht0
          rotate_left
          · exact .inr ht0
          refine .inl ⟨ht0.1, rfl, fun b' cs' et' hb' hc => ?_⟩
          by_cases hbb : b' = b
          · subst hbb
            exact absurd (H.inj tok t b' hlive ⟨_, hA, rfl⟩ hr hb') htt
          · exact ⟨cs', (wrO_other hbb).trans hc, rfl⟩
  · subst e; exact hX hk
theorem hr_wrO (H : HR c) (h0 : c.A[tok]? = some (.mapo i vs)) (hk : i.isIter = j.isIter) (hr : c.ρ tok = some b) (ho : ObjOk (c.wrO tok b ob (.mapo j us)) (some b) (.mapo j us)) : HR (c.wrO tok b ob (.mapo j us)) := by
  have E := ext_wrO (ob := ob) (us := us) H h0 hk hr
  have hlive : c.live tok := ⟨_, h0, rfl⟩
  have htl := get_lt h0
  refine ⟨fun t k ht hk => H.far t k (wrO_live h0 ht) hk, fun t u k ht hu h1 h2 => H.inj t u k (wrO_live h0 ht) (wrO_live h0 hu) h1 h2, fun t x h => ?_, fun k hk => ?_, fun g v h => ?_⟩
  · by_cases htt : tok = t
    · subst htt
      have : (c.wrO tok b ob (.mapo j us)).A[tok]? = some (.mapo j us) := by show (c.A.set tok _)[tok]? = _; rw [List.getElem?_set_self htl]
      rw [this] at h; cases h
      show ObjOk _ (c.ρ tok) _
      rw [hr]; exact ho
    · have : (c.wrO tok b ob (.mapo j us)).A[t]? = c.A[t]? := by show (c.A.set tok _)[t]? = _; rw [List.getElem?_set_ne htt]
      rw [this] at h
      refine objOk_ext E (H.obj t x h) (fun hxl k hk => wrO_other (fun e => ?_))
      subst e
      exact htt (H.inj tok t k hlive ⟨x, h, hxl⟩ hr hk)
  · show k < (c.w.heap.setIfInBounds b ob).size
    rw [Array.size_setIfInBounds]; exact H.old k hk
  · exact (H.glo g v h).mono E.le.I
end
/-! ### the operations -/
section
variable {P : Program} {G : List (Nat × Value)} {A : List AO} {T : List (Nat × AV)} {Kk : AV → List AO → Prop}
theorem aact_make {t : TypeId} (h : ∀ b, Kk (.ptr A.length 0) (A ++ [.mapo (.map b 0 []) []])) : AAct P G A T (.makeMap t none) Kk := by
  refine ⟨?_⟩
  rintro c a ⟨dst, op, type, pos, after, guard⟩ H hA hG rfl hT
  have E := ext_newO H (.map #[] 0) (.mapo (.map c.w.heap.size 0 []) [])
  have hn : (c.newO (.map #[] 0) (.mapo (.map c.w.heap.size 0 []) [])).A[c.A.length]? = some (.mapo (.map c.w.heap.size 0 []) []) := newO_A_new
  refine ⟨c.newO (.map #[] 0) (.mapo (.map c.w.heap.size 0 []) []), .value (.map (some c.w.heap.size)), _, .ptr c.A.length 0, ?_, .inl rfl, E, hr_newO H ?_, rel_map_ptr (b := c.w.heap.size) hn newO_ρ_new, ?_⟩
  · simp [execOp, Instr.makeMap, newObj, Sem.run]; rfl
  · exact ⟨c.w.heap.size, _, [], rfl, newO_heap_new, ⟨rfl, #[], rfl, rfl, rfl, fun e he => by cases he⟩, by unfold RelL; rfl⟩
  · have := h c.w.heap.size
    subst hA; exact this
theorem mok_map {bm clock b : Nat} {ks : List (Nat × Value)} {o : Obj} {us : List Value} (h : MOk (.map bm clock ks) b o us) : b = bm ∧ ∃ es : Array MapEntry, o = .map es clock ∧ es.toList.map (fun e => (e.born, e.key)) = ks ∧ es.toList.map (·.val) = us ∧ ∀ e ∈ es.toList, e.born < clock := h
/-- what the state knows of a map -/
theorem map_at {c : Cx} (H : HR c) {tok off bm clock : Nat} {ks : List (Nat × Value)} {vs : List AV} {v : Value} (h0 : c.A[tok]? = some (.mapo (.map bm clock ks) vs)) (hr : Rel c (.ptr tok off) v) :
    v = .map (some bm) ∧ c.ρ tok = some bm ∧ ∃ es : Array MapEntry, c.w.heap[bm]? = some (.map es clock) ∧ es.toList.map (fun e => (e.born, e.key)) = ks ∧ RelL c vs (es.toList.map (·.val)) ∧ ∀ e ∈ es.toList, e.born < clock := by
  obtain ⟨b, h1, rfl⟩ := rel_ptr_map h0 hr
  obtain ⟨b', ob, us, h2, h3, h4, h5⟩ := H.obj tok _ h0
  rw [h1] at h2; cases h2
  obtain ⟨rfl, es, rfl, k1, rfl, k2⟩ := mok_map h4
  exact ⟨rfl, h1, es, h3, k1, h5, k2⟩
end
/-! ### look-up, store -/
section
variable {P : Program} {G : List (Nat × Value)} {A : List AO} {T : List (Nat × AV)} {Kk : AV → List AO → Prop}
theorem ix_map {es : Array MapEntry} {ks : List (Nat × Value)} (h : es.toList.map (fun e => (e.born, e.key)) = ks) {j : Nat} {e : MapEntry} (he : es.toList[j]? = some e) : ks[j]? = some (e.born, e.key) := by
  rw [← h, List.getElem?_map, he]; rfl
theorem mem_map_of {es : Array MapEntry} {ks : List (Nat × Value)} (h : es.toList.map (fun e => (e.born, e.key)) = ks) {p : Nat × Value} (hp : p ∈ ks) : ∃ e ∈ es.toList, p = (e.born, e.key) := by
  rw [← h] at hp
  obtain ⟨e, h1, h2⟩ := List.mem_map.1 hp
  exact ⟨e, h1, h2.symm⟩
theorem RelL.get' {c : Cx} {l : List AV} {vs : List Value} (h : RelL c l vs) {i : Nat} {v : Value} (hi : vs[i]? = some v) : ∃ a, l[i]? = some a ∧ Rel c a v := by
  have hl := RelL.length l vs h
  have hlt : i < l.length := by have := get_lt hi; omega
  obtain ⟨v', h1, h2⟩ := RelL.get l vs i l[i] h (List.getElem?_eq_getElem hlt)
  rw [hi] at h1; cases h1
  exact ⟨_, List.getElem?_eq_getElem hlt, h2⟩
theorem aact_lookup {t kt et : TypeId} {x k : Operand} {ok : Bool} {tok off bm clock : Nat} {ks : List (Nat × Value)} {vs : List AV} {kv : Value} {z : AV}
    (hx : ev T x = .ptr tok off) (ho : A[tok]? = some (.mapo (.map bm clock ks) vs)) (ht : P.underlying t = some (.map kt et)) (K : Keyed P kt)
    (hk : ∀ c v, Rel c (ev T k) v → v = kv) (hkl : ∃ l, keyOf P kt kv = some l) (hks : ∀ p ∈ ks, ∃ l, keyOf P kt p.2 = some l)
    (hz : ∀ c : Cx, ∃ zv, (zeroValue et).run P c.w = .ok zv c.w ∧ Rel c z zv)
    (h1 : (∀ p ∈ ks, p.2 ≠ kv) → Kk (if ok then .tup [z, .fz .bool false] else z) A)
    (h2 : ∀ (j : Nat) (p : Nat × Value) (a : AV), ks[j]? = some p → p.2 = kv → vs[j]? = some a → Kk (if ok then .tup [a, .fz .bool true] else a) A) : AAct P G A T (.lookup t x k ok) Kk := by
  refine ⟨?_⟩
  rintro c a ⟨dst, op, type, pos, after, guard⟩ H hA hG rfl hT
  have rx := hT x (by simp [Op.operands])
  have rk := hk c _ (hT k (by simp [Op.operands]))
  rw [hx] at rx
  subst hA
  obtain ⟨e1, hr, es, hb, hks', hvs, hold⟩ := map_at H ho rx
  obtain ⟨l, hl⟩ := hkl
  obtain ⟨zv, z1, z2⟩ := hz c
  have run : ∀ r : Option (Nat × Value), (Instr.findKey kt kv es.toList).run P c.w = .ok r c.w → (Instr.lookup t (a.eval x) (a.eval k) ok).run P c.w =
      .ok (match r with | some (_, v) => if ok then .tuple #[v, .bool true] else v | none => if ok then .tuple #[zv, .bool false] else zv) c.w := by
    intro r hf
    rw [e1, rk]
    cases r with
    | none => simp [Instr.lookup, run_underlying ht, MapKept.run_getObj_map hb, K.check c.w _ hl, hf, z1, Result.andThen]
    | some y => simp [Instr.lookup, run_underlying ht, MapKept.run_getObj_map hb, K.check c.w _ hl, hf, Result.andThen]
  rcases K.find c.w hl es.toList (fun e he => hks (e.born, e.key) (by rw [← hks']; exact List.mem_map.2 ⟨e, he, rfl⟩)) with ⟨f1, f2⟩ | ⟨j, e, f1, f2, f3⟩
  · have hK := h1 (fun p hp => by obtain ⟨e, he, rfl⟩ := mem_map_of hks' hp; exact f2 e he)
    refine ⟨c, _, _, _, by simp only [execOp, Sem.run_bind, run _ f1, Result.andThen_ok, Sem.run_pure]; rfl, .inl rfl, Ext.refl c, H, ?_, hK⟩
    cases ok
    · exact z2
    · simp only [if_true]
      unfold Rel; exact ⟨[zv, .bool false], rfl, by unfold RelL; exact ⟨_, _, rfl, z2, by unfold RelL; exact ⟨_, _, rfl, rel_bool.2 rfl, by unfold RelL; rfl⟩⟩⟩
  · obtain ⟨av, g1, g2⟩ := hvs.get' (i := j) (v := e.val) (by rw [List.getElem?_map, f2]; rfl)
    have hK := h2 j _ av (ix_map hks' f2) f3 g1
    refine ⟨c, _, _, _, by simp only [execOp, Sem.run_bind, run _ f1, Result.andThen_ok, Sem.run_pure]; rfl, .inl rfl, Ext.refl c, H, ?_, hK⟩
    cases ok
    · exact g2
    · simp only [if_true]
      unfold Rel; exact ⟨[e.val, .bool true], rfl, by unfold RelL; exact ⟨_, _, rfl, g2, by unfold RelL; exact ⟨_, _, rfl, rel_bool.2 rfl, by unfold RelL; rfl⟩⟩⟩
theorem run_setObj_map' {w : World} {r : Nat} {es : Array MapEntry} {clock : Nat} (o : Obj) (hb : w.heap[r]? = some (.map es clock)) : (setObj r o).run P w = .ok () { w with heap := w.heap.setIfInBounds r o } := by
  simp [setObj, Sem.run, hb]
theorem RelL.set {c : Cx} : ∀ {l : List AV} {vs : List Value} (j : Nat) {a : AV} {v : Value}, RelL c l vs → Rel c a v → RelL c (l.set j a) (vs.set j v)
  | [], vs, j, a, v, h, _ => by unfold RelL at h; subst h; simp; unfold RelL; rfl
  | b :: l, vs, 0, a, v, h, hr => by
    unfold RelL at h
    obtain ⟨u, r, rfl, h1, h2⟩ := h
    simp only [List.set_cons_zero]
    unfold RelL; exact ⟨v, r, rfl, hr, h2⟩
  | b :: l, vs, j + 1, a, v, h, hr => by
    unfold RelL at h
    obtain ⟨u, r, rfl, h1, h2⟩ := h
    simp only [List.set_cons_succ]
    unfold RelL; exact ⟨u, _, rfl, h1, RelL.set j h2 hr⟩
theorem aact_store {t kt et : TypeId} {x k y : Operand} {tok off bm clock : Nat} {ks : List (Nat × Value)} {vs : List AV} {kv : Value}
    (hx : ev T x = .ptr tok off) (ho : A[tok]? = some (.mapo (.map bm clock ks) vs)) (ht : P.underlying t = some (.map kt et)) (K : Keyed P kt)
    (hk : ∀ c v, Rel c (ev T k) v → v = kv) (hkl : ∃ l, keyOf P kt kv = some l) (hks : ∀ p ∈ ks, ∃ l, keyOf P kt p.2 = some l)
    (h1 : (∀ p ∈ ks, p.2 ≠ kv) → Kk .unk (A.set tok (.mapo (.map bm (clock + 1) (ks ++ [(clock, kv)])) (vs ++ [ev T y]))))
    (h2 : ∀ (j : Nat) (p : Nat × Value), ks[j]? = some p → p.2 = kv → Kk .unk (A.set tok (.mapo (.map bm clock ks) (vs.set j (ev T y))))) : AAct P G A T (.mapUpdate t x k y) Kk := by
  refine ⟨?_⟩
  rintro c a ⟨dst, op, type, pos, after, guard⟩ H hA hG rfl hT
  have rx := hT x (by simp [Op.operands])
  have rk := hk c _ (hT k (by simp [Op.operands]))
  have ry := hT y (by simp [Op.operands])
  rw [hx] at rx
  subst hA
  obtain ⟨e1, hr, es, hb, hks', hvs, hold⟩ := map_at H ho rx
  obtain ⟨l, hl⟩ := hkl
  have hlt := some_lt hb
  rcases K.find c.w hl es.toList (fun e he => hks (e.born, e.key) (by rw [← hks']; exact List.mem_map.2 ⟨e, he, rfl⟩)) with ⟨f1, f2⟩ | ⟨j, e, f1, f2, f3⟩
  · have hK := h1 (fun p hp => by obtain ⟨e, he, rfl⟩ := mem_map_of hks' hp; exact f2 e he)
    have E := ext_wrO (ob := .map (es.push { key := kv, val := a.eval y, born := clock }) (clock + 1)) (j := .map bm (clock + 1) (ks ++ [(clock, kv)])) (us := vs ++ [ev T y]) H ho rfl hr
    refine ⟨_, .skip, undef, .unk, ?_, .inr ⟨rfl, rfl⟩, E, hr_wrO H ho rfl hr ?_, rel_unk, hK⟩
    · simp [execOp, Instr.mapUpdate, e1, rk, run_underlying ht, MapKept.run_getObj_map hb, K.check c.w _ hl, f1, Result.andThen, run_setObj_map' _ hb]; rfl
    · refine ⟨bm, _, _, rfl, wrO_self hlt, ⟨rfl, _, rfl, ?_, rfl, ?_⟩, ?_⟩
      · simp [hks']
      · intro e he
        simp at he
        rcases he with he | rfl
        · have := hold e (by simpa using he); omega
        · simp
      · simp only [Array.toList_push, List.map_append, List.map_cons, List.map_nil]
        exact RelL.append _ _ _ _ (hvs.ext E) (by unfold RelL; exact ⟨_, _, rfl, ry.ext E, by unfold RelL; rfl⟩)
  · have hK := h2 j _ (ix_map hks' f2) f3
    have E := ext_wrO (ob := .map (es.modify j fun e => { e with key := kv, val := a.eval y }) clock) (j := .map bm clock ks) (us := vs.set j (ev T y)) H ho rfl hr
    refine ⟨_, .skip, undef, .unk, ?_, .inr ⟨rfl, rfl⟩, E, hr_wrO H ho rfl hr ?_, rel_unk, hK⟩
    · have hj : es[j]? = some e := by simpa using f2
      have hst := K.stays (P := P) c.w hl
      simp [execOp, Instr.mapUpdate, e1, rk, run_underlying ht, MapKept.run_getObj_map hb, K.check c.w _ hl, f1, Result.andThen, hj, f3, hst, run_setObj_map' _ hb]; rfl
    · have hmod : ∀ {β : Type} (g : MapEntry → β) (v : β), (∀ e', es.toList[j]? = some e' → g { e' with key := kv, val := a.eval y } = v) → (es.modify j fun e => { e with key := kv, val := a.eval y }).toList.map g = (es.toList.map g).set j v := by
        intro β g v hg
        apply List.ext_getElem?
        intro m
        rw [List.getElem?_map, List.getElem?_set]
        simp only [Array.toList_modify, List.getElem?_modify, List.length_map]
        by_cases hjm : j = m
        · subst hjm
          rw [f2, if_pos rfl, if_pos (get_lt f2)]
          simpa using hg e f2
        · rw [if_neg hjm, List.getElem?_map]
          cases es.toList[m]? with
          | none => rfl
          | some e' => simp [hjm]
      refine ⟨bm, _, _, rfl, wrO_self hlt, ⟨rfl, _, rfl, ?_, rfl, ?_⟩, ?_⟩
      · rw [hmod (fun e => (e.born, e.key)) (e.born, kv) (fun e' he' => by rw [f2] at he'; cases he'; rfl), hks']
        apply List.ext_getElem?
        intro m
        rw [List.getElem?_set]
        by_cases hjm : j = m
        · subst hjm
          rw [if_pos rfl, ix_map hks' f2, if_pos (get_lt (ix_map hks' f2)), f3]
        · rw [if_neg hjm]
      · intro e' he'
        obtain ⟨m, hm⟩ := List.getElem?_of_mem he'
        simp only [Array.toList_modify, List.getElem?_modify] at hm
        cases hem : es.toList[m]? with
        | none => rw [hem] at hm; simp at hm
        | some e2 =>
          rw [hem] at hm
          have hb2 := hold e2 (List.mem_of_getElem? hem)
          by_cases hjm : j = m
          · simp [hjm] at hm; rw [← hm]; exact hb2
          · simp [hjm] at hm; rw [← hm]; exact hb2
      · rw [hmod (·.val) (a.eval y) (fun e' _ => rfl)]
        exact RelL.set j (hvs.ext E) (ry.ext E)
end
/-! ### through a map -/
section
variable {P : Program} {G : List (Nat × Value)} {A : List AO} {T : List (Nat × AV)} {Kk : AV → List AO → Prop}
theorem aact_range {t kt et : TypeId} {x : Operand} {tok off bm clock : Nat} {ks : List (Nat × Value)} {vs : List AV}
    (hx : ev T x = .ptr tok off) (ho : A[tok]? = some (.mapo (.map bm clock ks) vs)) (ht : P.underlying t = some (.map kt et))
    (h : Kk (.ptr A.length 0) (A ++ [.mapo (.iter bm clock [] clock) []])) : AAct P G A T (.range t x) Kk := by
  refine ⟨?_⟩
  rintro c a ⟨dst, op, type, pos, after, guard⟩ H hA hG rfl hT
  have rx := hT x (by simp [Op.operands])
  rw [hx] at rx
  subst hA
  obtain ⟨e1, hr, es, hb, hks', hvs, hold⟩ := map_at H ho rx
  have hn : (c.newO (.mapIter (some bm) clock #[] clock) (.mapo (.iter bm clock [] clock) [])).A[c.A.length]? = some (.mapo (.iter bm clock [] clock) []) := newO_A_new
  refine ⟨c.newO (.mapIter (some bm) clock #[] clock) (.mapo (.iter bm clock [] clock) []), .value (.pointer (some ⟨c.w.heap.size, 0, none⟩)), _, .ptr c.A.length 0, ?_, .inl rfl, ext_newO H _ _, hr_newO H ?_, rel_map_ptr (b := c.w.heap.size) hn newO_ρ_new, h⟩
  · simp [execOp, Instr.range, e1, run_underlying ht, MapKept.run_getObj_map hb, newObj, Sem.run, Result.andThen]; rfl
  · exact ⟨c.w.heap.size, _, [], rfl, newO_heap_new, ⟨rfl, rfl, Nat.le_refl _⟩, by unfold RelL; rfl⟩
/-- what the state knows of one that goes through a map -/
theorem iter_at {c : Cx} (H : HR c) {tok off bm since last : Nat} {seen : List Nat} {vs : List AV} {v : Value} (h0 : c.A[tok]? = some (.mapo (.iter bm since seen last) vs)) (hr : Rel c (.ptr tok off) v) :
    ∃ b, v = .pointer (some ⟨b, 0, none⟩) ∧ c.ρ tok = some b ∧ c.w.heap[b]? = some (.mapIter (some bm) since seen.toArray last) ∧ vs = [] ∧ since ≤ last := by
  obtain ⟨b, h1, rfl⟩ := rel_ptr_map h0 hr
  obtain ⟨b', ob, us, h2, h3, ⟨rfl, rfl, h4⟩, h5⟩ := H.obj tok _ h0
  rw [h1] at h2; cases h2
  have := RelL.length _ _ h5
  exact ⟨b, rfl, h1, h3, List.eq_nil_of_length_eq_zero (by simpa using this.symm), h4⟩
theorem run_setObj_iter {w : World} {r : Nat} {m : Option Nat} {x : Nat} {s : Array Nat} {y : Nat} (o : Obj) (hb : w.heap[r]? = some (.mapIter m x s y)) : (setObj r o).run P w = .ok () { w with heap := w.heap.setIfInBounds r o } := by
  simp [setObj, Sem.run, hb]
theorem run_getObj_iter {w : World} {r : Nat} {m : Option Nat} {x : Nat} {s : Array Nat} {y : Nat} (hb : w.heap[r]? = some (.mapIter m x s y)) : (getObj r).run P w = .ok (.mapIter m x s y) w := by
  simp [getObj, Sem.run, hb]
theorem run_next_at (w : World) (ty : TypeId) (ri bm since c0 : Nat) (seen : Array Nat) (es : Array MapEntry) (clock : Nat) (hi : w.heap[ri]? = some (.mapIter (some bm) since seen c0)) (hb : w.heap[bm]? = some (.map es clock))
    (hold : ∀ x ∈ es.toList, x.born < since) (hsc : since ≤ c0) :
    ((∀ e ∈ es.toList, seen.contains e.born = true) ∧ (Instr.next (.pointer (some ⟨ri, 0, none⟩)) false ty).run P w = .ok (.tuple #[.bool false]) w) ∨
    ∃ e ∈ es.toList, seen.contains e.born = false ∧ ∃ w1 : World, w1.heap = w.heap ∧ WSame w w1 ∧
      (Instr.next (.pointer (some ⟨ri, 0, none⟩)) false ty).run P w = .ok (.tuple #[.bool true, e.key, e.val]) { w1 with heap := w1.heap.setIfInBounds ri (.mapIter (some bm) since (seen.push e.born) clock) } := by
  have hlt := some_lt hb
  simp only [Instr.next, Sem.run_bind, run_getObj_iter hi, MapKept.run_getObj_map hb, Result.andThen_ok, next_test_false seen es since c0 hold hsc, Bool.false_eq_true, if_false]
  have hmem : ∀ x ∈ (Array.filter (fun e => !seen.contains e.born) es).toList, x ∈ es.toList ∧ seen.contains x.born = false := fun x hx => by
    have := Array.mem_filter.1 (Array.mem_toList_iff.1 hx)
    exact ⟨Array.mem_toList_iff.2 this.1, by simpa using this.2⟩
  have hall : (Array.filter (fun e => !seen.contains e.born) es).size = 0 → ∀ e ∈ es.toList, seen.contains e.born = true := fun h0 e he => by
    cases hc : seen.contains e.born with
    | true => rfl
    | false =>
      have : e ∈ Array.filter (fun e => !seen.contains e.born) es := Array.mem_filter.2 ⟨Array.mem_toList_iff.1 he, by simp only [hc, Bool.not_false]⟩
      rw [Array.eq_empty_of_size_eq_zero h0] at this
      simp at this
  generalize Array.filter (fun e => !seen.contains e.born) es = L at hmem hall ⊢
  have e1 : L.filter (fun x => decide (x.born < since)) = L := Array.filter_eq_self.2 (fun x hx => by simpa using hold x (hmem x (by simpa using hx)).1)
  have e2 : L.filter (fun x => decide (x.born ≥ since)) = #[] := by
    rw [Array.filter_eq_empty_iff]
    intro x hx
    have := hold x (hmem x (by simpa using hx)).1
    simp
    omega
  simp only [e1, e2, Array.append_empty]
  by_cases h0 : L.size = 0
  · left
    have hL : L = #[] := Array.eq_empty_of_size_eq_zero h0
    refine ⟨hall h0, ?_⟩
    subst hL
    simp [choose, Sem.run, Question.forced]
  · right
    have hne : L.isEmpty = false := by simp [Array.isEmpty, h0]
    simp only [hne, Bool.false_eq_true, if_false, Array.empty_append, Array.size_map]
    have hch : ∃ (j : Nat) (w1 : World), j < L.size ∧ w1.heap = w.heap ∧ WSame w w1 ∧ (choose (Question.mapNext L.size)).run P w = .ok j w1 := by
      by_cases hf : L.size ≤ 1
      · exact ⟨0, w, by omega, rfl, WSame.refl _, by simp [choose, Sem.run, Question.forced, hf]⟩
      · exact ⟨_, { w with drawn := w.drawn + 1 }, Nat.mod_lt _ (by omega), rfl, ⟨rfl, rfl, rfl⟩, by
          simp only [choose, Sem.run, Question.forced, decide_eq_true_eq, hf, if_false, Question.cut]
          rfl⟩
    obtain ⟨j, w1, hj, hh, hs, hrun⟩ := hch
    have hm := hmem L[j] (by simp)
    refine ⟨L[j], hm.1, hm.2, w1, hh, hs, ?_⟩
    have hset := run_setObj_iter (P := P) (w := w1) (.mapIter (some bm) since (seen.push L[j].born) clock) (by rw [hh]; exact hi)
    simp only [hrun, Result.andThen_ok, Array.getElem?_map, Array.getElem?_eq_getElem hj, Option.map_some, Sem.run_bind, hset, Sem.run_pure]
theorem aact_next {x : Operand} {tok m off bm since clock last : Nat} {seen : List Nat} {ks : List (Nat × Value)} {vs us : List AV}
    (hx : ev T x = .ptr tok off) (hi : A[tok]? = some (.mapo (.iter bm since seen last) us)) (ho : A[m]? = some (.mapo (.map bm clock ks) vs)) (hold : ∀ p ∈ ks, p.1 < since) (hsc : since ≤ clock)
    (h1 : (∀ p ∈ ks, p.1 ∈ seen) → Kk (.tup [.fz .bool false]) A)
    (h2 : ∀ p ∈ ks, p.1 ∉ seen → Kk (.tup [.fz .bool true, .unk, .unk]) (A.set tok (.mapo (.iter bm since (seen ++ [p.1]) clock) []))) : AAct P G A T (.next x false) Kk := by
  refine ⟨?_⟩
  rintro c a ⟨dst, op, type, pos, after, guard⟩ H hA hG rfl hT
  have rx := hT x (by simp [Op.operands])
  rw [hx] at rx
  subst hA
  obtain ⟨ri, e1, hr, hib, _, hsl⟩ := iter_at H hi rx
  obtain ⟨b, ob, ws, q1, q2, q3, q4⟩ := H.obj m _ ho
  obtain ⟨rfl, es, rfl, k1, k3, k2⟩ := mok_map q3
  have hold' : ∀ e ∈ es.toList, e.born < since := fun e he => hold (e.born, e.key) (by rw [← k1]; exact List.mem_map.2 ⟨e, he, rfl⟩)
  rcases run_next_at (P := P) c.w type ri b since last seen.toArray es clock hib q2 hold' hsl with ⟨f1, f2⟩ | ⟨e, he, f1, w1, f2, f3, f4⟩
  · refine ⟨c, .value (.tuple #[.bool false]), _, .tup [.fz .bool false], by simp only [execOp, e1, Sem.run_bind, f2, Result.andThen_ok, Sem.run_pure], .inl rfl, Ext.refl c, H, ?_, h1 fun p hp => ?_⟩
    · unfold Rel; exact ⟨[.bool false], rfl, by unfold RelL; exact ⟨_, _, rfl, rel_bool.2 rfl, by unfold RelL; rfl⟩⟩
    · obtain ⟨e, he, rfl⟩ := mem_map_of k1 hp
      simpa using f1 e he
  · obtain ⟨E0, H0⟩ := ext_draw H w1 f2 f3
    have hi' : ({ c with w := w1 } : Cx).A[tok]? = some (.mapo (.iter b since seen last) us) := hi
    have E1 := ext_wrO (ob := .mapIter (some b) since (seen.toArray.push e.born) clock) (j := .iter b since (seen ++ [e.born]) clock) (us := []) H0 hi' rfl hr
    refine ⟨_, .value _, _, .tup [.fz .bool true, .unk, .unk], by simp only [execOp, e1, Sem.run_bind, f4, Result.andThen_ok, Sem.run_pure]; rfl, .inl rfl, E0.trans E1, hr_wrO H0 hi' rfl hr ?_, ?_, h2 (e.born, e.key) (by rw [← k1]; exact List.mem_map.2 ⟨e, he, rfl⟩) (by simpa using f1)⟩
    · refine ⟨ri, _, [], rfl, wrO_self (by show ri < w1.heap.size; rw [f2]; exact some_lt hib), ⟨by simp, rfl, hsc⟩, by unfold RelL; rfl⟩
    · unfold Rel; exact ⟨[.bool true, e.key, e.val], rfl, by unfold RelL; exact ⟨_, _, rfl, rel_bool.2 rfl, by unfold RelL; exact ⟨_, _, rfl, rel_unk, by unfold RelL; exact ⟨_, _, rfl, rel_unk, by unfold RelL; rfl⟩⟩⟩⟩
theorem aact_entry {x : Operand} {tok m off bm since clock b0 : Nat} {s : List Nat} {ks : List (Nat × Value)} {vs us : List AV} {kf : Value → AV}
    (hx : ev T x = .ptr tok off) (hi : A[tok]? = some (.mapo (.iter bm since (s ++ [b0]) clock) us)) (ho : A[m]? = some (.mapo (.map bm clock ks) vs)) (hin : ∃ p ∈ ks, p.1 = b0)
    (hkf : ∀ p ∈ ks, ∀ c : Cx, Rel c (kf p.2) p.2)
    (h : ∀ (j : Nat) (p : Nat × Value) (a : AV), ks[j]? = some p → p.1 = b0 → vs[j]? = some a → Kk (.tup [kf p.2, a]) A) : AAct P G A T (.entry x) Kk := by
  refine ⟨?_⟩
  rintro c a ⟨dst, op, type, pos, after, guard⟩ H hA hG rfl hT
  have rx := hT x (by simp [Op.operands])
  rw [hx] at rx
  subst hA
  obtain ⟨ri, e1, hr, hib, _, hsl⟩ := iter_at H hi rx
  obtain ⟨b, ob, ws, q1, q2, q3, q4⟩ := H.obj m _ ho
  obtain ⟨rfl, es, rfl, k1, rfl, k2⟩ := mok_map q3
  have hback : (s ++ [b0]).toArray.back? = some b0 := by simp
  obtain ⟨e, hf⟩ : ∃ e, es.find? (fun e => e.born == b0) = some e := by
    cases hf : es.find? (fun e => e.born == b0) with
    | some e => exact ⟨e, rfl⟩
    | none =>
      obtain ⟨p, hp, hpb⟩ := hin
      obtain ⟨e, he, rfl⟩ := mem_map_of k1 hp
      have := Array.find?_eq_none.1 hf e (by simpa using he)
      simp at this
      exact absurd hpb this
  have heb : e.born = b0 := by have := Array.find?_some hf; simpa using this
  have hem : e ∈ es.toList := by have := Array.mem_of_find?_eq_some hf; simpa using this
  obtain ⟨j, hj⟩ := List.getElem?_of_mem hem
  obtain ⟨av, g1, g2⟩ := q4.get' (i := j) (v := e.val) (by rw [List.getElem?_map, hj]; rfl)
  refine ⟨c, .value (.tuple #[e.key, e.val]), _, .tup [kf e.key, av], ?_, .inl rfl, Ext.refl c, H, ?_, h j (e.born, e.key) av (ix_map k1 hj) heb g1⟩
  · simp only [execOp, e1, Sem.run_bind, Instr.entry, run_getObj_iter hib, Result.andThen_ok, hback, MapKept.run_getObj_map q2, bne_self_eq_false, Bool.false_eq_true, if_false, hf, Sem.run_pure]
  · unfold Rel; exact ⟨[e.key, e.val], rfl, by unfold RelL; exact ⟨_, _, rfl, hkf (e.born, e.key) (by rw [← k1]; exact List.mem_map.2 ⟨e, hem, rfl⟩) c, by unfold RelL; exact ⟨_, _, rfl, g2, by unfold RelL; rfl⟩⟩⟩
end
end Go.Ab
/-
  The memory seen under other names where its end is not written out.
-/
namespace Go.Ab
open Go
mutual
theorem map_fix {f : Nat → Nat} {n : Nat} (hf : ∀ i, i < n → f i = i) : ∀ a : AV, a.okB n = true → a.map f = a
  | .fz t x, _ => rfl
  | .fptr t x, _ => rfl
  | .ref t o l, h => by unfold AV.okB at h; unfold AV.map; rw [hf t (by simpa using h)]
  | .nilSl, _ => rfl
  | .ptr t o, h => by unfold AV.okB at h; unfold AV.map; rw [hf t (by simpa using h)]
  | .elt t i o, h => by unfold AV.okB at h; unfold AV.map; rw [hf t (by simpa using h)]
  | .glob g, _ => rfl
  | .agg l, h => by unfold AV.okB at h; unfold AV.map; rw [mapL_fix hf l h]
  | .tup l, h => by unfold AV.okB at h; unfold AV.map; rw [mapL_fix hf l h]
  | .fn g l, h => by unfold AV.okB at h; unfold AV.map; rw [mapL_fix hf l h]
  | .ifc t a, h => by unfold AV.okB at h; unfold AV.map; rw [map_fix hf a h]
  | .opt g a, h => by unfold AV.okB at h; unfold AV.map; rw [map_fix hf a h]
  | .unk, _ => rfl
theorem mapL_fix {f : Nat → Nat} {n : Nat} (hf : ∀ i, i < n → f i = i) : ∀ l : List AV, okLB n l = true → mapL f l = l
  | [], _ => rfl
  | a :: l, h => by
    unfold okLB at h
    rw [Bool.and_eq_true] at h
    unfold mapL
    rw [map_fix hf a h.1, mapL_fix hf l h.2]
end
mutual
theorem okB_up {n m : Nat} (h : n ≤ m) : ∀ a : AV, a.okB n = true → a.okB m = true
  | .fz t x, _ => rfl
  | .fptr t x, _ => rfl
  | .ref t o l, k => by unfold AV.okB at *; have : t < n := by simpa using k
                        simpa using (by omega : t < m)
  | .nilSl, _ => rfl
  | .ptr t o, k => by unfold AV.okB at *; have : t < n := by simpa using k
                      simpa using (by omega : t < m)
  | .elt t i o, k => by unfold AV.okB at *; have : t < n := by simpa using k
                        simpa using (by omega : t < m)
  | .glob g, _ => rfl
  | .agg l, k => by unfold AV.okB at *; exact okLB_up h l k
  | .tup l, k => by unfold AV.okB at *; exact okLB_up h l k
  | .fn g l, k => by unfold AV.okB at *; exact okLB_up h l k
  | .ifc t a, k => by unfold AV.okB at *; exact okB_up h a k
  | .opt g a, k => by unfold AV.okB at *; exact okB_up h a k
  | .unk, _ => rfl
theorem okLB_up {n m : Nat} (h : n ≤ m) : ∀ l : List AV, okLB n l = true → okLB m l = true
  | [], _ => rfl
  | a :: l, k => by
    unfold okLB at *
    rw [Bool.and_eq_true] at *
    exact ⟨okB_up h a k.1, okLB_up h l k.2⟩
end
theorem mapO_fix {f : Nat → Nat} {n : Nat} (hf : ∀ i, i < n → f i = i) {o : AO} (h : okLB n o.vals = true) : mapO f o = o := by
  cases o with
  | row e xs => rfl
  | box vs => exact congrArg AO.box (mapL_fix hf vs h)
  | dead => rfl
  | room => rfl
  | mapo i vs => exact congrArg (AO.mapo i) (mapL_fix hf vs h)
theorem renA_intro {p : List Nat} {A : List AO} {m : Nat} : ∀ (A' : List AO) (j0 : Nat), (∀ (j : Nat) o, A'[j]? = some o → o ≠ .dead → A[nameOf p (j0 + j)]? = some (mapO (nameOf p) o) ∧ okLB m o.vals = true) → RenA p A m j0 A'
  | [], _, _ => trivial
  | o :: A', j0, h => by
    have next : RenA p A m (j0 + 1) A' := renA_intro A' (j0 + 1) fun j o' hj hd => by
      have := h (j + 1) o' (by simpa using hj) hd
      rwa [show j0 + (j + 1) = j0 + 1 + j by omega] at this
    have h0 := h 0 o rfl
    cases o with
    | dead => exact next
    | room => exact ⟨(h0 (by simp)).1, next⟩
    | row e xs => exact ⟨(h0 (by simp)).1, next⟩
    | box vs => exact ⟨(h0 (by simp)).1, (h0 (by simp)).2, next⟩
    | mapo i vs => exact ⟨(h0 (by simp)).1, (h0 (by simp)).2, next⟩
theorem viewB_intro {p : List Nat} {m : Nat} {A A' : List AO} (hm : m ≤ A'.length) (hinj : ∀ j k, j < A'.length → k < A'.length → nameOf p j = nameOf p k → j = k)
    (hfix : ∀ j, j < A'.length → nameOf p j = j ∨ (roomB A j = true ∧ roomB A' j = false)) : viewB p m A A' = true := by
  unfold viewB rmB
  simp only [Bool.and_eq_true, List.all_eq_true, List.mem_range]
  refine ⟨⟨Nat.ble_eq_true_of_le hm, fun j hj => ?_⟩, fun j hj => ?_⟩
  · rcases hfix j hj with h | h
    · simp [h]
    · simp [h.2]
  · rw [Bool.or_eq_true]
    right
    rw [Bool.and_eq_true, List.all_eq_true]
    refine ⟨?_, fun k hk => ?_⟩
    · rcases hfix j hj with h | h
      · simp [h]
      · simp [h.1]
    · rw [List.mem_range] at hk
      by_cases h : nameOf p j = nameOf p k
      · have := hinj j k hj hk h
        subst this; simp
      · have : Nat.beq (nameOf p j) (nameOf p k) = false := by
          rw [← Bool.not_eq_true]; intro e; exact h (Nat.eq_of_beq_eq_true e)
        simp [this]
theorem nameOf_range {n i : Nat} (h : i < n) : nameOf (List.range n) i = i := by
  unfold nameOf; rw [List.getD, List.getElem?_range h]; rfl
/-- all that the objects hold leads to objects below n -/
def OkA (n : Nat) (A : List AO) : Prop := ∀ o ∈ A, okLB n o.vals = true
/-- as it was -/
theorem view_id {m : Nat} {v : AV} {A : List AO} (hm : m ≤ A.length) (hv : v.okB A.length = true) (hA : OkA A.length A) : View m v A v A := by
  have hf : ∀ i, i < A.length → nameOf (List.range A.length) i = i := fun i hi => nameOf_range hi
  refine ⟨List.range A.length, viewB_intro hm (fun j k hj hk h => by rwa [hf j hj, hf k hk] at h) (fun j hj => .inl (hf j hj)), renA_intro A 0 fun j o hj hd => ?_, (map_fix hf v hv).symm, hv⟩
  have hok := hA o (List.mem_of_getElem? hj)
  rw [Nat.zero_add, hf j (get_lt hj), mapO_fix hf hok]
  exact ⟨hj, hok⟩
/-- a new row takes the last room -/
theorem view_room {m : Nat} {B : List AO} {e : Ty} {xs : List e.den} {o l : Nat} (hm : m ≤ B.length + 1) (hB : OkA B.length B) :
    View m (.ref (B.length + 1) o l) (B ++ [.room, .row e xs]) (.ref B.length o l) (B ++ [.row e xs]) := by
  have hlen : (B ++ [AO.row e xs]).length = B.length + 1 := by simp
  have h1 : ∀ i, i < B.length → nameOf (List.range B.length ++ [B.length + 1]) i = i := fun i hi => by
    unfold nameOf
    rw [List.getD, List.getElem?_append_left (by simpa using hi), List.getElem?_range hi]; rfl
  have h2 : nameOf (List.range B.length ++ [B.length + 1]) B.length = B.length + 1 := by
    unfold nameOf
    rw [List.getD, List.getElem?_append_right (by simp)]; simp
  refine ⟨List.range B.length ++ [B.length + 1], viewB_intro (by rw [hlen]; exact hm) (fun j k hj hk h => ?_) (fun j hj => ?_), renA_intro _ 0 fun j o' hj hd => ?_, ?_, ?_⟩
  · rw [hlen] at hj hk
    by_cases hjb : j < B.length
    · rw [h1 j hjb] at h
      by_cases hkb : k < B.length
      · rwa [h1 k hkb] at h
      · obtain rfl : k = B.length := by omega
        rw [h2] at h; omega
    · obtain rfl : j = B.length := by omega
      rw [h2] at h
      by_cases hkb : k < B.length
      · rw [h1 k hkb] at h; omega
      · omega
  · rw [hlen] at hj
    by_cases hjb : j < B.length
    · exact .inl (h1 j hjb)
    · obtain rfl : j = B.length := by omega
      refine .inr ⟨?_, ?_⟩
      · unfold roomB; rw [List.getElem?_append_right (Nat.le_refl _)]; simp
      · unfold roomB; rw [List.getElem?_append_right (Nat.le_refl _)]; simp
  · rw [Nat.zero_add]
    have hjl := get_lt hj
    rw [hlen] at hjl
    by_cases hjb : j < B.length
    · rw [List.getElem?_append_left hjb] at hj
      have hok := hB o' (List.mem_of_getElem? hj)
      rw [h1 j hjb, mapO_fix h1 hok, List.getElem?_append_left hjb]
      exact ⟨hj, okLB_up (by rw [hlen]; omega) _ hok⟩
    · obtain rfl : j = B.length := by omega
      rw [List.getElem?_append_right (Nat.le_refl _)] at hj
      simp only [Nat.sub_self, List.getElem?_cons_zero, Option.some.injEq] at hj
      subst hj
      rw [h2, List.getElem?_append_right (by omega)]
      exact ⟨by simp [mapO], rfl⟩
  · unfold AV.map; rw [h2]
  · unfold AV.okB; rw [hlen]; simp
theorem force_of (v : AV) (A : List AO) (K : AV → List AO → Prop) (h : K v A) : forceV v fun v' => forceA A fun A' => K v' A' := by
  rw [forceV_eq, forceA_eq]; exact h
/-! ### append, the slice's row found by a fact -/
theorem aSrc_ref {e : Ty} {A : List AO} {tok off len : Nat} {ys : List e.den} (h : A[tok]? = some (.row e ys)) : aSrc e A (.ref tok off len) = (some (off + len ≤ List.length ys), some ((List.drop off ys).take len)) := by
  unfold aSrc
  simp only [h]
  simp
theorem aAppend_ref {D : Tab} {A : List AO} {t0 t1 el : TypeId} {e : Ty} {tok len : Nat} {y : AV} {C : Option Prop} {xs ys : List e.den} (h1 : telem D t0 = some el) (h2 : tyOf D 8 el = some e) (h3 : (elOk D el e && notInt D t1) = true)
    (hy : aSrc e A y = (C, some ys)) (hx : A[tok]? = some (.row e xs)) (hbl : Nat.ble (tby D el) 24 = true) : aAppend D A t0 t1 (.ref tok 0 len) y = ⟨andC C (some (len ≤ List.length xs ∧ len + List.length ys ≤ 5864062014634)), .ref A.length 0 (len + List.length ys), A.set tok .dead ++ [.row e (List.take len xs ++ ys)]⟩ := by
  unfold aAppend
  simp only [h1, h2, h3, hy, hx, hbl]
  simp
theorem aAppend_nil {D : Tab} {A : List AO} {t0 t1 el : TypeId} {e : Ty} {y : AV} {C : Option Prop} {ys : List e.den} (h1 : telem D t0 = some el) (h2 : tyOf D 8 el = some e) (h3 : (elOk D el e && notInt D t1) = true)
    (hy : aSrc e A y = (C, some ys)) (hbl : Nat.ble (tby D el) 16 = true) : aAppend D A t0 t1 .nilSl y = ⟨andC C (some (List.length ys ≤ 8796093022208)), .ref A.length 0 (List.length ys), A ++ [.row e ys]⟩ := by
  unfold aAppend
  simp only [h1, h2, h3, hy, hbl]
theorem run_app {D : Tab} {A : List AO} {t0 t1 : TypeId} {x y : AV} {e : ER} {K : AV → List AO → Prop} (h : aAppend D A t0 t1 x y = e) (hk : runE e K) : runE (aAppend D A t0 t1 x y) K := h ▸ hk
theorem conv1_dat {A A' : List AO} {t : Ty} {v : AV} {C : Option Prop} {x : t.den} (hb : bEq (aggB v) t.isAgg = true) (h : toD A t v = (C, some x, A')) : conv1 A (.dat t) v = (C, some (.fz t x), A') := by
  unfold conv1
  simp only [hb, h]
/-- a slice whose row is found by a fact, turned to data -/
theorem conv1_ref {A : List AO} {e : Ty} {tok off len : Nat} {xs : List e.den} (h : A[tok]? = some (.row e xs)) :
    conv1 A (.dat (.list e)) (.ref tok off len) = (andC (some (off + len ≤ List.length xs)) none, some (.fz (.list e) ((List.drop off xs).take len)), A.set tok .dead) := by
  have hg : goodC A (acells (.ref tok off len)) = true := by
    show ([AV.ref tok off len].all fun a => a.one && a.sure A) = true
    simp [AV.one, AV.sure, h]
  have hf : frz A (acells (.ref tok off len)) = (andC (some (off + len ≤ List.length xs)) none, [.fz (.list e) ((List.drop off xs).take len)], A.set tok .dead) := by
    show frz A [AV.ref tok off len] = _
    unfold frz
    simp only [h]
    unfold frz
    rfl
  have ht : toD A (.list e) (.ref tok off len) = (andC (some (off + len ≤ List.length xs)) none, some ((List.drop off xs).take len), A.set tok .dead) := by
    unfold toD
    rw [hg]
    show (match frz A (acells (.ref tok off len)) with | (C, l, A') => (C, (Ty.list e).ofC l, A')) = _
    rw [hf]
    simp [Ty.ofC, ofList]
  exact conv1_dat rfl ht
theorem aact_dat {P : Program} {G : List (Nat × Value)} {A : List AO} {T : List (Nat × AV)} {op : Op} {K : AV → List AO → Prop} (tok : Nat) (e : Ty) (xs : List e.den) (len : Nat)
    (h : AAct P G A T op fun r A' => r = .ref tok 0 len ∧ A'[tok]? = some (.row e xs) ∧ len ≤ List.length xs ∧ K (.fz (.list e) (List.take len xs)) (A'.set tok .dead)) : AAct P G A T op K :=
  ⟨fun c a o H hA hG ho hT => by
    obtain ⟨c1, nx, v, r, h1, h2, h3, h4, h5, rfl, h6, h7, h8⟩ := h.run c a o H hA hG ho hT
    have hc := conv1_ref (off := 0) (len := len) h6
    obtain ⟨c2, k1, k2, k3, k4, k5⟩ := conv1_sound (cv := .dat (.list e)) (a' := .fz (.list e) (List.take len xs)) h4 h5 (by rw [hc]; show 0 + len ≤ _; omega) (by rw [hc]; simp)
    rw [hc] at k4
    refine ⟨c2, nx, v, .fz (.list e) (List.take len xs), by rw [k1.w]; exact h1, h2, h3.trans k2, k3, k5, by rw [k4]; exact h8⟩⟩
theorem rent_ref {n0 : Nat} {A : List AO} {e : Ty} {tok len : Nat} {xs : List e.den} (v : AV) (h : A[tok]? = some (.row e xs)) (hl : len ≤ List.length xs) : REnt n0 (.tup [.ref tok 0 len, v]) A (.tup [.fz (.list e) (List.take len xs), v]) (A.set tok .dead) := by
  refine REnt.conv [.dat (.list e), .keep] (some (0 + len ≤ List.length xs)) ?_ (by show 0 + len ≤ _; omega)
  unfold conv
  rw [conv1_ref (off := 0) (len := len) h]
  rfl
theorem isAdd_not {D : Tab} {A : List AO} {T : List (Nat × AV)} {o : Oper} (h : aKind D A T o.op ≠ .pure) : isAddO o = false := by
  unfold isAddO
  cases o.guard with
  | some j => rfl
  | none =>
    simp only
    split
    · rename_i h2
      rw [h2] at h
      exact (h rfl).elim
    · rfl
theorem sgRun_ag {P : Program} {D : Tab} {G : List (Nat × Value)} {L : List Oper} {o : Oper} {T : List (Nat × AV)} {A : List AO} {K : AV → List AO → Prop} (h : isAddO o = false) : sgRun P D G L A T o K = agRun P D G L A T o K := by
  unfold sgRun; rw [h]
/-- an effect told by an equation, in a region without draws -/
theorem aOps_eff {P : Program} {D : Tab} {G : List (Nat × Value)} {N : Nat} {L : List Oper} {o : Oper} {os : List Oper} {T : List (Nat × AV)} {A : List AO} {Q : List (Nat × AV) → List AO → Prop} {d : Nat} {e : ER}
    (hd : o.dst = some d) (hN : Nat.blt d N = true) (hg : o.guard = none) (hk : aKind D A T o.op = .eff e) (h : runE e fun v A' => aOps P D G N L os ((d, v) :: T) A' Q) : aOps P D G N L (o :: os) T A Q := by
  unfold aOps
  rw [hd]
  simp only [hN]
  rw [sgRun_ag (isAdd_not (D := D) (A := A) (T := T) (by rw [hk]; exact fun h => by cases h))]
  unfold agRun
  rw [hg]
  simp only
  unfold aRun
  rw [hk]
  exact h
theorem run_bs {D : Tab} {A : List AO} {t : TypeId} {n : Nat} {ps : List (Nat × AV)} {e : ER} {K : AV → List AO → Prop} (h : aBuildSlice D A t n ps = e) (hk : runE e K) : runE (aBuildSlice D A t n ps) K := h ▸ hk
theorem runE_none {v : AV} {A : List AO} {K : AV → List AO → Prop} (hk : K v A) : runE ⟨none, v, A⟩ K := force_of v A K hk
theorem runE_some {C : Prop} {v : AV} {A : List AO} {K : AV → List AO → Prop} (h : C) (hk : K v A) : runE ⟨some C, v, A⟩ K := ⟨h, force_of v A K hk⟩
end Go.Ab
/-
  Maps, on: what is changed where it lies (an entry is looked up or made, and its value is put there later).
-/
namespace Go.Ab
open Go Go.ChangeMaps Go.Maps
section
variable {P : Program} {G : List (Nat × Value)} {A : List AO} {T : List (Nat × AV)} {Kk : AV → List AO → Prop}
theorem modify_id {es : Array MapEntry} {j : Nat} {e : MapEntry} {kv : Value} (h : es[j]? = some e) (hk : e.key = kv) : es.modify j (fun e => { e with key := kv }) = es := by
  apply Array.ext'
  apply List.ext_getElem?
  intro m
  simp only [Array.toList_modify, List.getElem?_modify]
  by_cases hjm : j = m
  · subst hjm
    have h' : es.toList[j]? = some e := by simpa using h
    rw [h']
    simp
    rw [← hk]
  · cases es.toList[m]? with
    | none => rfl
    | some e' => simp [hjm]
theorem aact_upsert {t kt et : TypeId} {x k : Operand} {tok off bm clock : Nat} {ks : List (Nat × Value)} {vs : List AV} {kv : Value} {z : AV}
    (hx : ev T x = .ptr tok off) (ho : A[tok]? = some (.mapo (.map bm clock ks) vs)) (ht : P.underlying t = some (.map kt et)) (K : Keyed P kt)
    (hk : ∀ c v, Rel c (ev T k) v → v = kv) (hkl : ∃ l, keyOf P kt kv = some l) (hks : ∀ p ∈ ks, ∃ l, keyOf P kt p.2 = some l)
    (hz : ∀ c : Cx, ∃ zv, (zeroValue et).run P c.w = .ok zv c.w ∧ Rel c z zv)
    (h1 : (∀ p ∈ ks, p.2 ≠ kv) → Kk (.tup [z, .fz (.int .i64) (clock : Int)]) (A.set tok (.mapo (.map bm (clock + 1) (ks ++ [(clock, kv)])) (vs ++ [z]))))
    (h2 : ∀ (j : Nat) (p : Nat × Value) (a : AV), ks[j]? = some p → p.2 = kv → vs[j]? = some a → Kk (.tup [a, .fz (.int .i64) (p.1 : Int)]) A) : AAct P G A T (.mapEntry t x k) Kk := by
  refine ⟨?_⟩
  rintro c a ⟨dst, op, type, pos, after, guard⟩ H hA hG rfl hT
  have rx := hT x (by simp [Op.operands])
  have rk := hk c _ (hT k (by simp [Op.operands]))
  rw [hx] at rx
  subst hA
  obtain ⟨e1, hr, es, hb, hks', hvs, hold⟩ := map_at H ho rx
  obtain ⟨l, hl⟩ := hkl
  obtain ⟨zv, z1, z2⟩ := hz c
  have hlt := some_lt hb
  rcases K.find c.w hl es.toList (fun e he => hks (e.born, e.key) (by rw [← hks']; exact List.mem_map.2 ⟨e, he, rfl⟩)) with ⟨f1, f2⟩ | ⟨j, e, f1, f2, f3⟩
  · have hK := h1 (fun p hp => by obtain ⟨e, he, rfl⟩ := mem_map_of hks' hp; exact f2 e he)
    have E := ext_wrO (ob := .map (es.push { key := kv, val := zv, born := clock }) (clock + 1)) (j := .map bm (clock + 1) (ks ++ [(clock, kv)])) (us := vs ++ [z]) H ho rfl hr
    refine ⟨_, .value (.tuple #[zv, goInt clock]), .tuple #[zv, goInt clock], _, ?_, .inl rfl, E, hr_wrO H ho rfl hr ?_, ?_, hK⟩
    · simp [execOp, Instr.mapEntry, e1, rk, run_underlying ht, MapKept.run_getObj_map hb, K.check c.w _ hl, f1, z1, Result.andThen, run_setObj_map' _ hb]; rfl
    · refine ⟨bm, _, _, rfl, wrO_self hlt, ⟨rfl, _, rfl, ?_, rfl, ?_⟩, ?_⟩
      · simp [hks']
      · intro e he
        simp at he
        rcases he with he | rfl
        · have := hold e (by simpa using he); omega
        · simp
      · simp only [Array.toList_push, List.map_append, List.map_cons, List.map_nil]
        exact RelL.append _ _ _ _ (hvs.ext E) (by unfold RelL; exact ⟨_, _, rfl, z2.ext E, by unfold RelL; rfl⟩)
    · unfold Rel; exact ⟨[zv, goInt clock], rfl, by unfold RelL; exact ⟨_, _, rfl, z2.ext E, by unfold RelL; exact ⟨_, _, rfl, rel_int.2 rfl, by unfold RelL; rfl⟩⟩⟩
  · obtain ⟨av, g1, g2⟩ := hvs.get' (i := j) (v := e.val) (by rw [List.getElem?_map, f2]; rfl)
    have hK := h2 j _ av (ix_map hks' f2) f3 g1
    have hj : es[j]? = some e := by simpa using f2
    have hst := K.stays (P := P) c.w hl
    have hid := modify_id hj f3
    have hset : ({ c.w with heap := c.w.heap.setIfInBounds bm (.map es clock) } : World) = c.w := by
      have : c.w.heap.setIfInBounds bm (.map es clock) = c.w.heap := by
        apply Array.ext_getElem?
        intro m
        by_cases hm : bm = m
        · subst hm
          rw [Array.getElem?_setIfInBounds_self, if_pos hlt, hb]
        · rw [Array.getElem?_setIfInBounds_ne hm]
      rw [this]
    refine ⟨c, .value (.tuple #[e.val, goInt e.born]), .tuple #[e.val, goInt e.born], _, ?_, .inl rfl, Ext.refl c, H, ?_, hK⟩
    · simp [execOp, Instr.mapEntry, e1, rk, run_underlying ht, MapKept.run_getObj_map hb, K.check c.w _ hl, f1, Result.andThen, hj, f3, hst, hid, run_setObj_map' _ hb, hset]
    · unfold Rel; exact ⟨[e.val, goInt e.born], rfl, by unfold RelL; exact ⟨_, _, rfl, g2, by unfold RelL; exact ⟨_, _, rfl, rel_int.2 rfl, by unfold RelL; rfl⟩⟩⟩
theorem aact_put {t : TypeId} {x s y : Operand} {tok off bm clock st j : Nat} {ks : List (Nat × Value)} {vs : List AV} {p : Nat × Value}
    (hx : ev T x = .ptr tok off) (ho : A[tok]? = some (.mapo (.map bm clock ks) vs)) (hs : ∀ c v, Rel c (ev T s) v → v = .int .i64 (st : Int)) (hnd : (ks.map (·.1)).Nodup) (hj : ks[j]? = some p) (hp : p.1 = st)
    (h : Kk .unk (A.set tok (.mapo (.map bm clock ks) (vs.set j (ev T y))))) : AAct P G A T (.entryStore t x s y) Kk := by
  refine ⟨?_⟩
  rintro c a ⟨dst, op, type, pos, after, guard⟩ H hA hG rfl hT
  have rx := hT x (by simp [Op.operands])
  have rs := hs c _ (hT s (by simp [Op.operands]))
  have ry := hT y (by simp [Op.operands])
  rw [hx] at rx
  subst hA
  obtain ⟨e1, hr, es, hb, hks', hvs, hold⟩ := map_at H ho rx
  have hlt := some_lt hb
  obtain ⟨e, f2⟩ : ∃ e, es.toList[j]? = some e := by
    cases hc : es.toList[j]? with
    | some e => exact ⟨e, rfl⟩
    | none => rw [← hks', List.getElem?_map, hc] at hj; cases hj
  have hpe := ix_map hks' f2
  rw [hj] at hpe
  have hpe : p = (e.born, e.key) := by simpa using hpe
  have heb : e.born = st := by rw [← hp, hpe]
  have hborn : (es.toList.map (·.born)).Nodup := by
    have : es.toList.map (·.born) = ks.map (·.1) := by rw [← hks', List.map_map]; rfl
    rw [this]; exact hnd
  have hfi : es.findIdx? (fun e => (e.born : Int) == (st : Int)) = some j := by
    have hx : ∀ (q : MapEntry → Bool), es.findIdx? q = es.toList.findIdx? q := fun q => by cases es; simp
    rw [hx, List.findIdx?_eq_some_iff_getElem]
    have hjl := get_lt f2
    refine ⟨hjl, ?_, fun i hij => ?_⟩
    · have : es.toList[j] = e := by rw [List.getElem?_eq_getElem hjl] at f2; simpa using f2
      rw [this, heb]; simp
    · have hne : es.toList[i].born ≠ es.toList[j].born := fun he => by
        have := (List.getElem_inj (h₀ := by simpa using Nat.lt_trans hij hjl) (h₁ := by simpa using hjl) hborn).1 (by simpa using he)
        omega
      have : es.toList[j] = e := by rw [List.getElem?_eq_getElem hjl] at f2; simpa using f2
      rw [this, heb] at hne
      have hil : i < es.size := by simpa using Nat.lt_trans hij hjl
      have hne' : ¬ es[i].born = st := by simpa using hne
      simp
      omega
  have E := ext_wrO (ob := .map (es.modify j fun e => { e with val := a.eval y }) clock) (j := .map bm clock ks) (us := vs.set j (ev T y)) H ho rfl hr
  refine ⟨_, .skip, undef, .unk, ?_, .inr ⟨rfl, rfl⟩, E, hr_wrO H ho rfl hr ?_, rel_unk, h⟩
  · simp [execOp, Instr.entryStore, e1, rs, asInt, asIntOf, MapKept.run_getObj_map hb, hfi, Result.andThen, run_setObj_map' _ hb]; rfl
  · have hmod : ∀ {β : Type} (g : MapEntry → β) (v : β), (∀ e', es.toList[j]? = some e' → g { e' with val := a.eval y } = v) → (es.modify j fun e => { e with val := a.eval y }).toList.map g = (es.toList.map g).set j v := by
      intro β g v hg
      apply List.ext_getElem?
      intro m
      rw [List.getElem?_map, List.getElem?_set]
      simp only [Array.toList_modify, List.getElem?_modify, List.length_map]
      by_cases hjm : j = m
      · subst hjm
        rw [f2, if_pos rfl, if_pos (get_lt f2)]
        simpa using hg e f2
      · rw [if_neg hjm, List.getElem?_map]
        cases es.toList[m]? with
        | none => rfl
        | some e' => simp [hjm]
    refine ⟨bm, _, _, rfl, wrO_self hlt, ⟨rfl, _, rfl, ?_, rfl, ?_⟩, ?_⟩
    · rw [hmod (fun e => (e.born, e.key)) (e.born, e.key) (fun e' he' => by rw [f2] at he'; cases he'; rfl), hks']
      apply List.ext_getElem?
      intro m
      rw [List.getElem?_set]
      by_cases hjm : j = m
      · subst hjm
        rw [if_pos rfl, hj, if_pos (get_lt hj), hpe]
      · rw [if_neg hjm]
    · intro e' he'
      obtain ⟨m, hm⟩ := List.getElem?_of_mem he'
      simp only [Array.toList_modify, List.getElem?_modify] at hm
      cases hem : es.toList[m]? with
      | none => rw [hem] at hm; simp at hm
      | some e2 =>
        rw [hem] at hm
        have hb2 := hold e2 (List.mem_of_getElem? hem)
        by_cases hjm : j = m
        · simp [hjm] at hm; rw [← hm]; exact hb2
        · simp [hjm] at hm; rw [← hm]; exact hb2
    · rw [hmod (·.val) (a.eval y) (fun e' _ => rfl)]
      exact RelL.set j (hvs.ext E) (ry.ext E)
end
end Go.Ab
/-
  A map of arcs: the small walks (ways, directions).
-/
namespace Go.Proofs.YtcfalmdfohphoaaDoor
open Go Go.Ab
set_option maxRecDepth 100000
abbrev MpT : Ty := .one (.list (.list SpT))
/-- bounds of a map: places of paper, not too many -/
structure MB (m : Shp.Arcs) : Prop where
  few : m.length ≤ 1000
  two : ∀ i, i < m.length → 2 ≤ (Shp.arc m i).length
  len : ∀ i, i < m.length → (Shp.arc m i).length ≤ 10000
  pl : ∀ i t, Shp.inM m i t → plB (Shp.pt m i t) = true
def tos (m : Shp.Arcs) (w : Int) : Shp.Sp := if 0 < w then Shp.at_ (Shp.arcOf m w) ((Shp.arcOf m w).length - 1) else Shp.at_ (Shp.arcOf m w) 0
theorem way_any (G : List (Nat × Value)) (m : Shp.Arcs) (w : Int) (B : MB m) (hw : Shp.isWay m w) (K : AV → List AO → Prop) (hK : K (.tup [.fz SpT (Shp.frm m w), .fz SpT (Shp.nxp m w), .fz SpT (tos m w)]) []) : ACall Tryd.prog G 47 [.fz MpT m, .fz int w] [] K := by
  obtain ⟨h0, h1⟩ := hw
  have hb := B.few
  have h2 := B.two (w.natAbs - 1) (by omega)
  have h3 := B.len (w.natAbs - 1) (by omega)
  have e1 : (max w (-w) - 1).toNat = w.natAbs - 1 := by omega
  have hg : List.getD m (max w (0 - w) - 1).toNat SpT.list.dft = Shp.arcOf m w := by
    unfold Shp.arcOf
    congr 1
    omega
  have h2 : 2 ≤ (Shp.arcOf m w).length := h2
  have h3 : (Shp.arcOf m w).length ≤ 10000 := h3
  unfold Shp.frm Shp.nxp tos at hK
  refine acall_mk (E := envCut G 46 0 [2]) (envCutOk _ _ _ _) Tryd.func47 rfl rfl rfl rfl rfl ?_
  (repeat' (first | exact trivial | exact fun h => h | refine And.intro ?_ ?_ | (intro hb; try simp at hb) | omega | exact rfl | exact Nat.le_refl _ | (show _ + 1 ≤ 4294967296; omega) | (show _ + 1 ≤ 5864062014634; omega) | (dsimp only; omega) | (show (_ : Int) ≤ (_ : Int); omega) | (show _ < List.length _; simp only [List.length_set, List.length_append, List.length_take]; omega) | (show wantB _ _ = true; simp <;> omega) | (show (_ : Bool) = _; simp_all; done) | (exfalso; omega) | refine aRegion_auto (by decide +kernel) ?_ | fail))
  refine ⟨[(1, .fz int w), (4, .ptr 1 0), (5, .ptr 2 0), (6, .ptr 3 0), (7, .fz (.list SpT) (Shp.arcOf m w))], [.box [.fz (.list (.list SpT)) m], .box [.fz int 0, .fz int 0], .box [.fz int 0, .fz int 0], .box [.fz int 0, .fz int 0]], Ent.sub ?_ ?_, ?_⟩
  · rfl
  · (repeat' (first | exact trivial | exact rfl | refine And.intro ?_ ?_))
    exact congrArg (fun l => AV.fz (.list SpT) l) hg
  generalize Shp.arcOf m w = a at *
  have f1 : ((a.length : Int) - 1).toNat = a.length - 1 := by omega
  have f2 : ((a.length : Int) - 2).toNat = a.length - 2 := by omega
  by_cases c : 0 < w
  · rw [if_pos c, if_pos c, if_pos c] at hK
    (repeat' (first | exact trivial | exact fun h => h | refine And.intro ?_ ?_ | (intro hb; try simp at hb) | omega | exact rfl | exact Nat.le_refl _ | (show _ + 1 ≤ 4294967296; omega) | (show _ + 1 ≤ 5864062014634; omega) | (dsimp only; omega) | (show (_ : Int) ≤ (_ : Int); omega) | (show _ < List.length _; simp only [List.length_set, List.length_append, List.length_take]; omega) | (show wantB _ _ = true; simp <;> omega) | (show (_ : Bool) = _; simp_all; done) | (exfalso; omega) | refine aRegion_auto (by decide +kernel) ?_ | fail))
    (apply exEff; focus (repeat' (first | exact ⟨rfl, rfl⟩ | exact trivial | refine And.intro ?_ ?_ | omega | exact Nat.le_refl _ | (show _ + 1 ≤ 4294967296; omega) | (show _ + 1 ≤ 5864062014634; omega))))
    (repeat' (first | exact trivial | exact fun h => h | refine And.intro ?_ ?_ | (intro hb; try simp at hb) | omega | exact rfl | exact Nat.le_refl _ | (show _ + 1 ≤ 4294967296; omega) | (show _ + 1 ≤ 5864062014634; omega) | (dsimp only; omega) | (show (_ : Int) ≤ (_ : Int); omega) | (show _ < List.length _; simp only [List.length_set, List.length_append, List.length_take]; omega) | (show wantB _ _ = true; simp <;> omega) | (show (_ : Bool) = _; simp_all; done) | (exfalso; omega) | refine aRegion_auto (by decide +kernel) ?_ | fail))
    (apply exEff; focus (repeat' (first | exact ⟨rfl, rfl⟩ | exact trivial | refine And.intro ?_ ?_ | omega | exact Nat.le_refl _ | (show _ + 1 ≤ 4294967296; omega) | (show _ + 1 ≤ 5864062014634; omega))))
    (repeat' (first | exact trivial | exact fun h => h | refine And.intro ?_ ?_ | (intro hb; try simp at hb) | omega | exact rfl | exact Nat.le_refl _ | (show _ + 1 ≤ 4294967296; omega) | (show _ + 1 ≤ 5864062014634; omega) | (dsimp only; omega) | (show (_ : Int) ≤ (_ : Int); omega) | (show _ < List.length _; simp only [List.length_set, List.length_append, List.length_take]; omega) | (show wantB _ _ = true; simp <;> omega) | (show (_ : Bool) = _; simp_all; done) | (exfalso; omega) | refine aRegion_auto (by decide +kernel) ?_ | fail))
    (apply exEff; focus (repeat' (first | exact ⟨rfl, rfl⟩ | exact trivial | refine And.intro ?_ ?_ | omega | exact Nat.le_refl _ | (show _ + 1 ≤ 4294967296; omega) | (show _ + 1 ≤ 5864062014634; omega))))
    (repeat' (first | exact trivial | exact fun h => h | refine And.intro ?_ ?_ | (intro hb; try simp at hb) | omega | exact rfl | exact Nat.le_refl _ | (show _ + 1 ≤ 4294967296; omega) | (show _ + 1 ≤ 5864062014634; omega) | (dsimp only; omega) | (show (_ : Int) ≤ (_ : Int); omega) | (show _ < List.length _; simp only [List.length_set, List.length_append, List.length_take]; omega) | (show wantB _ _ = true; simp <;> omega) | (show (_ : Bool) = _; simp_all; done) | (exfalso; omega) | refine aRegion_auto (by decide +kernel) ?_ | fail))
    refine ⟨_, _, (REnt.conv [.dat SpT, .dat SpT, .dat SpT] _ rfl ?_).trans (REnt.drop ⟨rfl, rfl⟩), ?_⟩
    · trivial
    · rw [f1]
      exact hK
  · rw [if_neg c, if_neg c, if_neg c] at hK
    (repeat' (first | exact trivial | exact fun h => h | refine And.intro ?_ ?_ | (intro hb; try simp at hb) | omega | exact rfl | exact Nat.le_refl _ | (show _ + 1 ≤ 4294967296; omega) | (show _ + 1 ≤ 5864062014634; omega) | (dsimp only; omega) | (show (_ : Int) ≤ (_ : Int); omega) | (show _ < List.length _; simp only [List.length_set, List.length_append, List.length_take]; omega) | (show wantB _ _ = true; simp <;> omega) | (show (_ : Bool) = _; simp_all; done) | (exfalso; omega) | refine aRegion_auto (by decide +kernel) ?_ | fail))
    (apply exEff; focus (repeat' (first | exact ⟨rfl, rfl⟩ | exact trivial | refine And.intro ?_ ?_ | omega | exact Nat.le_refl _ | (show _ + 1 ≤ 4294967296; omega) | (show _ + 1 ≤ 5864062014634; omega))))
    (repeat' (first | exact trivial | exact fun h => h | refine And.intro ?_ ?_ | (intro hb; try simp at hb) | omega | exact rfl | exact Nat.le_refl _ | (show _ + 1 ≤ 4294967296; omega) | (show _ + 1 ≤ 5864062014634; omega) | (dsimp only; omega) | (show (_ : Int) ≤ (_ : Int); omega) | (show _ < List.length _; simp only [List.length_set, List.length_append, List.length_take]; omega) | (show wantB _ _ = true; simp <;> omega) | (show (_ : Bool) = _; simp_all; done) | (exfalso; omega) | refine aRegion_auto (by decide +kernel) ?_ | fail))
    (apply exEff; focus (repeat' (first | exact ⟨rfl, rfl⟩ | exact trivial | refine And.intro ?_ ?_ | omega | exact Nat.le_refl _ | (show _ + 1 ≤ 4294967296; omega) | (show _ + 1 ≤ 5864062014634; omega))))
    (repeat' (first | exact trivial | exact fun h => h | refine And.intro ?_ ?_ | (intro hb; try simp at hb) | omega | exact rfl | exact Nat.le_refl _ | (show _ + 1 ≤ 4294967296; omega) | (show _ + 1 ≤ 5864062014634; omega) | (dsimp only; omega) | (show (_ : Int) ≤ (_ : Int); omega) | (show _ < List.length _; simp only [List.length_set, List.length_append, List.length_take]; omega) | (show wantB _ _ = true; simp <;> omega) | (show (_ : Bool) = _; simp_all; done) | (exfalso; omega) | refine aRegion_auto (by decide +kernel) ?_ | fail))
    (apply exEff; focus (repeat' (first | exact ⟨rfl, rfl⟩ | exact trivial | refine And.intro ?_ ?_ | omega | exact Nat.le_refl _ | (show _ + 1 ≤ 4294967296; omega) | (show _ + 1 ≤ 5864062014634; omega))))
    (repeat' (first | exact trivial | exact fun h => h | refine And.intro ?_ ?_ | (intro hb; try simp at hb) | omega | exact rfl | exact Nat.le_refl _ | (show _ + 1 ≤ 4294967296; omega) | (show _ + 1 ≤ 5864062014634; omega) | (dsimp only; omega) | (show (_ : Int) ≤ (_ : Int); omega) | (show _ < List.length _; simp only [List.length_set, List.length_append, List.length_take]; omega) | (show wantB _ _ = true; simp <;> omega) | (show (_ : Bool) = _; simp_all; done) | (exfalso; omega) | refine aRegion_auto (by decide +kernel) ?_ | fail))
    refine ⟨_, _, (REnt.conv [.dat SpT, .dat SpT, .dat SpT] _ rfl ?_).trans (REnt.drop ⟨rfl, rfl⟩), ?_⟩
    · trivial
    · rw [f1, f2]
      exact hK
theorem wayEnds_any (G : List (Nat × Value)) (m : Shp.Arcs) (w : Int) (B : MB m) (hw : Shp.isWay m w) (K : AV → List AO → Prop) (hK : K (.tup [.fz SpT (Shp.frm m w), .fz SpT (Shp.nxp m w), .fz SpT (tos m w)]) []) : ACall Tryd.prog G 58 [.fptr MpT m, .fz int w] [] K := by
  obtain ⟨h0, h1⟩ := hw
  have hb := B.few
  have h2 := B.two (w.natAbs - 1) (by omega)
  have h3 := B.len (w.natAbs - 1) (by omega)
  have h2 : 2 ≤ (Shp.arcOf m w).length := h2
  have h3 : (Shp.arcOf m w).length ≤ 10000 := h3
  unfold Shp.frm Shp.nxp tos at hK
  by_cases c : 0 < w
  · rw [if_pos c, if_pos c, if_pos c] at hK
    have hg : List.getD m (w - 1).toNat SpT.list.dft = Shp.arcOf m w := by
      unfold Shp.arcOf
      congr 1
      omega
    refine acall_mk (E := envCut G 55 0 [3]) (envCutOk _ _ _ _) Tryd.func58 rfl rfl rfl rfl rfl ?_
    (repeat' (first | exact trivial | exact fun h => h | refine And.intro ?_ ?_ | (intro hb; try simp at hb) | omega | exact rfl | exact Nat.le_refl _ | (show _ + 1 ≤ 4294967296; omega) | (show _ + 1 ≤ 5864062014634; omega) | (dsimp only; omega) | (show (_ : Int) ≤ (_ : Int); omega) | (show _ < List.length _; simp only [List.length_set, List.length_append, List.length_take]; omega) | (show wantB _ _ = true; simp <;> omega) | (show (_ : Bool) = _; simp_all; done) | (exfalso; omega) | refine aRegion_auto (by decide +kernel) ?_ | fail))
    refine ⟨[(4, .ptr 0 0), (5, .ptr 1 0), (6, .ptr 2 0), (7, .fz (.list SpT) (Shp.arcOf m w))], [.box [.fz int 0, .fz int 0], .box [.fz int 0, .fz int 0], .box [.fz int 0, .fz int 0]], Ent.sub ?_ ?_, ?_⟩
    · rfl
    · (repeat' (first | exact trivial | exact rfl | refine And.intro ?_ ?_))
      exact congrArg (fun l => AV.fz (.list SpT) l) hg
    generalize Shp.arcOf m w = a at *
    have f1 : ((a.length : Int) - 1).toNat = a.length - 1 := by omega
    (repeat' (first | exact trivial | exact fun h => h | refine And.intro ?_ ?_ | (intro hb; try simp at hb) | omega | exact rfl | exact Nat.le_refl _ | (show _ + 1 ≤ 4294967296; omega) | (show _ + 1 ≤ 5864062014634; omega) | (dsimp only; omega) | (show (_ : Int) ≤ (_ : Int); omega) | (show _ < List.length _; simp only [List.length_set, List.length_append, List.length_take]; omega) | (show wantB _ _ = true; simp <;> omega) | (show (_ : Bool) = _; simp_all; done) | (exfalso; omega) | refine aRegion_auto (by decide +kernel) ?_ | fail))
    (apply exEff; focus (repeat' (first | exact ⟨rfl, rfl⟩ | exact trivial | refine And.intro ?_ ?_ | omega | exact Nat.le_refl _ | (show _ + 1 ≤ 4294967296; omega) | (show _ + 1 ≤ 5864062014634; omega))))
    (repeat' (first | exact trivial | exact fun h => h | refine And.intro ?_ ?_ | (intro hb; try simp at hb) | omega | exact rfl | exact Nat.le_refl _ | (show _ + 1 ≤ 4294967296; omega) | (show _ + 1 ≤ 5864062014634; omega) | (dsimp only; omega) | (show (_ : Int) ≤ (_ : Int); omega) | (show _ < List.length _; simp only [List.length_set, List.length_append, List.length_take]; omega) | (show wantB _ _ = true; simp <;> omega) | (show (_ : Bool) = _; simp_all; done) | (exfalso; omega) | refine aRegion_auto (by decide +kernel) ?_ | fail))
    (apply exEff; focus (repeat' (first | exact ⟨rfl, rfl⟩ | exact trivial | refine And.intro ?_ ?_ | omega | exact Nat.le_refl _ | (show _ + 1 ≤ 4294967296; omega) | (show _ + 1 ≤ 5864062014634; omega))))
    (repeat' (first | exact trivial | exact fun h => h | refine And.intro ?_ ?_ | (intro hb; try simp at hb) | omega | exact rfl | exact Nat.le_refl _ | (show _ + 1 ≤ 4294967296; omega) | (show _ + 1 ≤ 5864062014634; omega) | (dsimp only; omega) | (show (_ : Int) ≤ (_ : Int); omega) | (show _ < List.length _; simp only [List.length_set, List.length_append, List.length_take]; omega) | (show wantB _ _ = true; simp <;> omega) | (show (_ : Bool) = _; simp_all; done) | (exfalso; omega) | refine aRegion_auto (by decide +kernel) ?_ | fail))
    (apply exEff; focus (repeat' (first | exact ⟨rfl, rfl⟩ | exact trivial | refine And.intro ?_ ?_ | omega | exact Nat.le_refl _ | (show _ + 1 ≤ 4294967296; omega) | (show _ + 1 ≤ 5864062014634; omega))))
    (repeat' (first | exact trivial | exact fun h => h | refine And.intro ?_ ?_ | (intro hb; try simp at hb) | omega | exact rfl | exact Nat.le_refl _ | (show _ + 1 ≤ 4294967296; omega) | (show _ + 1 ≤ 5864062014634; omega) | (dsimp only; omega) | (show (_ : Int) ≤ (_ : Int); omega) | (show _ < List.length _; simp only [List.length_set, List.length_append, List.length_take]; omega) | (show wantB _ _ = true; simp <;> omega) | (show (_ : Bool) = _; simp_all; done) | (exfalso; omega) | refine aRegion_auto (by decide +kernel) ?_ | fail))
    refine ⟨_, _, (REnt.conv [.dat SpT, .dat SpT, .dat SpT] _ rfl ?_).trans (REnt.drop ⟨rfl, rfl⟩), ?_⟩
    · trivial
    · rw [f1]
      exact hK
  · rw [if_neg c, if_neg c, if_neg c] at hK
    have hg : List.getD m (0 - w - 1).toNat SpT.list.dft = Shp.arcOf m w := by
      unfold Shp.arcOf
      congr 1
      omega
    refine acall_mk (E := envCut G 55 0 [5]) (envCutOk _ _ _ _) Tryd.func58 rfl rfl rfl rfl rfl ?_
    (repeat' (first | exact trivial | exact fun h => h | refine And.intro ?_ ?_ | (intro hb; try simp at hb) | omega | exact rfl | exact Nat.le_refl _ | (show _ + 1 ≤ 4294967296; omega) | (show _ + 1 ≤ 5864062014634; omega) | (dsimp only; omega) | (show (_ : Int) ≤ (_ : Int); omega) | (show _ < List.length _; simp only [List.length_set, List.length_append, List.length_take]; omega) | (show wantB _ _ = true; simp <;> omega) | (show (_ : Bool) = _; simp_all; done) | (exfalso; omega) | refine aRegion_auto (by decide +kernel) ?_ | fail))
    refine ⟨[(4, .ptr 0 0), (5, .ptr 1 0), (6, .ptr 2 0), (8, .fz (.list SpT) (Shp.arcOf m w))], [.box [.fz int 0, .fz int 0], .box [.fz int 0, .fz int 0], .box [.fz int 0, .fz int 0]], Ent.sub ?_ ?_, ?_⟩
    · rfl
    · (repeat' (first | exact trivial | exact rfl | refine And.intro ?_ ?_))
      exact congrArg (fun l => AV.fz (.list SpT) l) hg
    generalize Shp.arcOf m w = a at *
    have f1 : ((a.length : Int) - 1).toNat = a.length - 1 := by omega
    have f2 : ((a.length : Int) - 2).toNat = a.length - 2 := by omega
    (repeat' (first | exact trivial | exact fun h => h | refine And.intro ?_ ?_ | (intro hb; try simp at hb) | omega | exact rfl | exact Nat.le_refl _ | (show _ + 1 ≤ 4294967296; omega) | (show _ + 1 ≤ 5864062014634; omega) | (dsimp only; omega) | (show (_ : Int) ≤ (_ : Int); omega) | (show _ < List.length _; simp only [List.length_set, List.length_append, List.length_take]; omega) | (show wantB _ _ = true; simp <;> omega) | (show (_ : Bool) = _; simp_all; done) | (exfalso; omega) | refine aRegion_auto (by decide +kernel) ?_ | fail))
    (apply exEff; focus (repeat' (first | exact ⟨rfl, rfl⟩ | exact trivial | refine And.intro ?_ ?_ | omega | exact Nat.le_refl _ | (show _ + 1 ≤ 4294967296; omega) | (show _ + 1 ≤ 5864062014634; omega))))
    (repeat' (first | exact trivial | exact fun h => h | refine And.intro ?_ ?_ | (intro hb; try simp at hb) | omega | exact rfl | exact Nat.le_refl _ | (show _ + 1 ≤ 4294967296; omega) | (show _ + 1 ≤ 5864062014634; omega) | (dsimp only; omega) | (show (_ : Int) ≤ (_ : Int); omega) | (show _ < List.length _; simp only [List.length_set, List.length_append, List.length_take]; omega) | (show wantB _ _ = true; simp <;> omega) | (show (_ : Bool) = _; simp_all; done) | (exfalso; omega) | refine aRegion_auto (by decide +kernel) ?_ | fail))
    (apply exEff; focus (repeat' (first | exact ⟨rfl, rfl⟩ | exact trivial | refine And.intro ?_ ?_ | omega | exact Nat.le_refl _ | (show _ + 1 ≤ 4294967296; omega) | (show _ + 1 ≤ 5864062014634; omega))))
    (repeat' (first | exact trivial | exact fun h => h | refine And.intro ?_ ?_ | (intro hb; try simp at hb) | omega | exact rfl | exact Nat.le_refl _ | (show _ + 1 ≤ 4294967296; omega) | (show _ + 1 ≤ 5864062014634; omega) | (dsimp only; omega) | (show (_ : Int) ≤ (_ : Int); omega) | (show _ < List.length _; simp only [List.length_set, List.length_append, List.length_take]; omega) | (show wantB _ _ = true; simp <;> omega) | (show (_ : Bool) = _; simp_all; done) | (exfalso; omega) | refine aRegion_auto (by decide +kernel) ?_ | fail))
    (apply exEff; focus (repeat' (first | exact ⟨rfl, rfl⟩ | exact trivial | refine And.intro ?_ ?_ | omega | exact Nat.le_refl _ | (show _ + 1 ≤ 4294967296; omega) | (show _ + 1 ≤ 5864062014634; omega))))
    (repeat' (first | exact trivial | exact fun h => h | refine And.intro ?_ ?_ | (intro hb; try simp at hb) | omega | exact rfl | exact Nat.le_refl _ | (show _ + 1 ≤ 4294967296; omega) | (show _ + 1 ≤ 5864062014634; omega) | (dsimp only; omega) | (show (_ : Int) ≤ (_ : Int); omega) | (show _ < List.length _; simp only [List.length_set, List.length_append, List.length_take]; omega) | (show wantB _ _ = true; simp <;> omega) | (show (_ : Bool) = _; simp_all; done) | (exfalso; omega) | refine aRegion_auto (by decide +kernel) ?_ | fail))
    refine ⟨_, _, (REnt.conv [.dat SpT, .dat SpT, .dat SpT] _ rfl ?_).trans (REnt.drop ⟨rfl, rfl⟩), ?_⟩
    · trivial
    · rw [f1, f2]
      exact hK
end Go.Proofs.YtcfalmdfohphoaaDoor
/-
  Directions: the walks.
-/
namespace Go.Proofs.YtcfalmdfohphoaaDoor
open Go Go.Ab
set_option maxRecDepth 100000
def orI : List Int → Int
  | [] => 0
  | x :: l => if x ≠ 0 then x else orI l
theorem or_any (G : List (Nat × Value)) (xs : List Int) (hl : xs.length ≤ 1000000000000) (K : AV → List AO → Prop) (hK : K (.fz int (orI xs)) []) :
    ACall Tryd.prog G 65 [.fz (.list int) xs] [] K := by
  refine acall_mk (E := envAt G 18 0) (envOk _ _ _) Tryd.func65 rfl rfl rfl rfl rfl ?_
  (repeat' (first | exact trivial | exact fun h => h | refine And.intro ?_ ?_ | (intro hb; try simp at hb) | omega | exact rfl | exact Nat.le_refl _ | (show _ + 1 ≤ 4294967296; omega) | (show _ + 1 ≤ 5864062014634; omega) | (dsimp only; omega) | (show (_ : Int) ≤ (_ : Int); omega) | (show _ < List.length _; simp only [List.length_set, List.length_append, List.length_take]; omega) | (show wantB _ _ = true; simp <;> omega) | (show (_ : Bool) = _; simp_all; done) | (exfalso; omega) | refine aRegion_auto (by decide +kernel) ?_ | fail))
  refine ⟨Nat, fun k => ⟨[(3, .fz int 0), (6, .fz (.list int) xs), (7, .fz int xs.length), (8, .fz int k)], []⟩, fun k => k ≤ xs.length ∧ orI xs = orI (xs.drop k), fun k => xs.length - k, 0, ⟨Nat.zero_le _, rfl⟩, Ent.sub rfl ?_, ?_⟩
  · (repeat' (first | exact trivial | exact rfl | refine And.intro ?_ ?_))
  intro k ⟨hk, hp⟩
  (repeat' (first | exact trivial | exact fun h => h | refine And.intro ?_ ?_ | (intro hb; try simp at hb) | omega | exact rfl | exact Nat.le_refl _ | (show _ + 1 ≤ 4294967296; omega) | (show _ + 1 ≤ 5864062014634; omega) | (dsimp only; omega) | (show (_ : Int) ≤ (_ : Int); omega) | (show _ < List.length _; simp only [List.length_set, List.length_append, List.length_take]; omega) | (show wantB _ _ = true; simp <;> omega) | (show (_ : Bool) = _; simp_all; done) | (exfalso; omega) | refine aRegion_auto (by decide +kernel) ?_ | fail))
  · refine ⟨_, _, REnt.refl _ _ _, ?_⟩
    have hd : xs.drop k = xs[k]'(by omega) :: xs.drop (k + 1) := List.drop_eq_getElem_cons (by omega)
    have e : xs.getD (Int.toNat (k : Int)) int.dft = xs[k]'(by omega) := by simp [List.getD, show k < xs.length by omega]
    rw [hp, hd] at hK
    unfold orI at hK
    have hb : ¬ (xs.getD (Int.toNat (k : Int)) int.dft = 0) := hb
    rw [e] at hb
    rw [if_pos hb] at hK
    rw [e]; exact hK
  · refine ⟨k + 1, ⟨by omega, ?_⟩, by show _ - _ < _ - _; omega, Ent.sub rfl ?_⟩
    · have hd : xs.drop k = xs[k]'(by omega) :: xs.drop (k + 1) := List.drop_eq_getElem_cons (by omega)
      have e : xs.getD (Int.toNat (k : Int)) int.dft = xs[k]'(by omega) := by simp [List.getD, show k < xs.length by omega]
      have hb : xs.getD (Int.toNat (k : Int)) int.dft = 0 := hb
      rw [e] at hb
      rw [hp, hd, orI, if_neg (by omega)]
    · (repeat' (first | exact trivial | exact rfl | refine And.intro ?_ ?_))
  · refine ⟨_, _, REnt.refl _ _ _, ?_⟩
    have hk : k = xs.length := by omega
    subst hk
    rw [hp, List.drop_length] at hK
    exact hK
/-- a difference of two places -/
def dfB (d : Int × Int) : Prop := (-33554432 ≤ d.1 ∧ d.1 ≤ 33554432) ∧ (-33554432 ≤ d.2 ∧ d.2 ≤ 33554432)
theorem dfB_sub {p q : Int × Int} (hp : plB p = true) (hq : plB q = true) : dfB (Shp.sub p q) := by
  rw [plB_iff] at hp hq
  unfold dfB Shp.sub
  simp only
  omega
theorem half_any (G : List (Nat × Value)) (d : Int × Int) (K : AV → List AO → Prop) (hK : K (.fz int (Shp.hf d)) []) : ACall Tryd.prog G 66 [.fz SpT d] [] K := by
  unfold Shp.hf at hK
  by_cases c : 0 < d.2 ∨ (d.2 = 0 ∧ 0 < d.1)
  · rw [if_pos c] at hK
    refine acall_mk (E := envAt G 16 0) (envOk _ _ _) Tryd.func66 rfl rfl rfl rfl rfl ?_
    (repeat' (first | exact trivial | exact fun h => h | refine And.intro ?_ ?_ | (intro hb; try simp at hb) | omega | exact rfl | exact Nat.le_refl _ | (show _ + 1 ≤ 4294967296; omega) | (show _ + 1 ≤ 5864062014634; omega) | (dsimp only; omega) | (show (_ : Int) ≤ (_ : Int); omega) | (show _ < List.length _; simp only [List.length_set, List.length_append, List.length_take]; omega) | (show wantB _ _ = true; simp <;> omega) | (show (_ : Bool) = _; simp_all; done) | (exfalso; omega) | refine aRegion_auto (by decide +kernel) ?_ | refine ⟨_, _, REnt.drop ⟨rfl, rfl⟩, ?_⟩ | fail))
    exact hK
  · rw [if_neg c] at hK
    refine acall_mk (E := envAt G 16 0) (envOk _ _ _) Tryd.func66 rfl rfl rfl rfl rfl ?_
    (repeat' (first | exact trivial | exact fun h => h | refine And.intro ?_ ?_ | (intro hb; try simp at hb) | omega | exact rfl | exact Nat.le_refl _ | (show _ + 1 ≤ 4294967296; omega) | (show _ + 1 ≤ 5864062014634; omega) | (dsimp only; omega) | (show (_ : Int) ≤ (_ : Int); omega) | (show _ < List.length _; simp only [List.length_set, List.length_append, List.length_take]; omega) | (show wantB _ _ = true; simp <;> omega) | (show (_ : Bool) = _; simp_all; done) | (exfalso; omega) | refine aRegion_auto (by decide +kernel) ?_ | refine ⟨_, _, REnt.drop ⟨rfl, rfl⟩, ?_⟩ | fail))
    exact hK
theorem turned_any (G : List (Nat × Value)) (d e : Int × Int) (hd : dfB d) (he : dfB e) (K : AV → List AO → Prop) (hK : K (.fz int (Shp.trn d e)) []) : ACall Tryd.prog G 50 [.fz SpT d, .fz SpT e] [] K := by
  unfold dfB at hd he
  have m1 := mulb (a := e.1) (b := d.2) (by omega) (by omega)
  have m2 := mulb (a := e.2) (b := d.1) (by omega) (by omega)
  have h1 : 0 ≤ Shp.hf d ∧ Shp.hf d ≤ 1 := by unfold Shp.hf; split <;> omega
  have h2 : 0 ≤ Shp.hf e ∧ Shp.hf e ≤ 1 := by unfold Shp.hf; split <;> omega
  have ec : e.1 * d.2 - e.2 * d.1 = Shp.cross e d := by unfold Shp.cross; rw [Int.mul_comm e.2]
  have eo : orI [Shp.hf d - Shp.hf e, Shp.sgZ (Shp.cross e d)] = Shp.trn d e := by
    unfold Shp.trn orI orI orI
    by_cases h : Shp.hf d - Shp.hf e = 0
    · rw [if_neg (by omega), if_pos h]
      split <;> omega
    · rw [if_pos h, if_neg h]
  refine acall_mk (E := envAt G 24 0) (envOk _ _ _) Tryd.func50 rfl rfl rfl rfl rfl ?_
  (repeat' (first | exact trivial | exact fun h => h | refine And.intro ?_ ?_ | (intro hb; try simp at hb) | omega | exact rfl | exact Nat.le_refl _ | (show _ + 1 ≤ 4294967296; omega) | (show _ + 1 ≤ 5864062014634; omega) | (dsimp only; omega) | (show (_ : Int) ≤ (_ : Int); omega) | (show _ < List.length _; simp only [List.length_set, List.length_append, List.length_take]; omega) | (show wantB _ _ = true; simp <;> omega) | (show (_ : Bool) = _; simp_all; done) | (exfalso; omega) | refine aRegion_auto (by decide +kernel) ?_ | fail))
  apply exEff
  · refine acall_conv [.dat SpT] _ _ _ rfl trivial (acall_frame0 rfl (half_any _ d _ ?_))
    exact ⟨rfl, rfl⟩
  (repeat' (first | exact trivial | exact fun h => h | refine And.intro ?_ ?_ | (intro hb; try simp at hb) | omega | exact rfl | exact Nat.le_refl _ | (show _ + 1 ≤ 4294967296; omega) | (show _ + 1 ≤ 5864062014634; omega) | (dsimp only; omega) | (show (_ : Int) ≤ (_ : Int); omega) | (show _ < List.length _; simp only [List.length_set, List.length_append, List.length_take]; omega) | (show wantB _ _ = true; simp <;> omega) | (show (_ : Bool) = _; simp_all; done) | (exfalso; omega) | refine aRegion_auto (by decide +kernel) ?_ | fail))
  apply exEff
  · refine acall_conv [.dat SpT] _ _ _ rfl trivial (acall_frame0 rfl (half_any _ e _ ?_))
    exact ⟨rfl, rfl⟩
  (repeat' (first | exact trivial | exact fun h => h | refine And.intro ?_ ?_ | (intro hb; try simp at hb) | omega | exact rfl | exact Nat.le_refl _ | (show _ + 1 ≤ 4294967296; omega) | (show _ + 1 ≤ 5864062014634; omega) | (dsimp only; omega) | (show (_ : Int) ≤ (_ : Int); omega) | (show _ < List.length _; simp only [List.length_set, List.length_append, List.length_take]; omega) | (show wantB _ _ = true; simp <;> omega) | (show (_ : Bool) = _; simp_all; done) | (exfalso; omega) | refine aRegion_auto (by decide +kernel) ?_ | fail))
  apply exEff
  · refine acall_frame0 rfl (sign_any _ (e.1 * d.2 - e.2 * d.1) _ ?_)
    rw [ec]
    exact ⟨rfl, rfl⟩
  (repeat' (first | exact trivial | exact fun h => h | refine And.intro ?_ ?_ | (intro hb; try simp at hb) | omega | exact rfl | exact Nat.le_refl _ | (show _ + 1 ≤ 4294967296; omega) | (show _ + 1 ≤ 5864062014634; omega) | (dsimp only; omega) | (show (_ : Int) ≤ (_ : Int); omega) | (show _ < List.length _; simp only [List.length_set, List.length_append, List.length_take]; omega) | (show wantB _ _ = true; simp <;> omega) | (show (_ : Bool) = _; simp_all; done) | (exfalso; omega) | refine aRegion_auto (by decide +kernel) ?_ | fail))
  (apply exEff; focus (repeat' (first | exact ⟨rfl, rfl⟩ | exact trivial | refine And.intro ?_ ?_ | omega | exact Nat.le_refl _ | (show _ + 1 ≤ 4294967296; omega) | (show _ + 1 ≤ 5864062014634; omega))))
  (repeat' (first | exact trivial | exact fun h => h | refine And.intro ?_ ?_ | (intro hb; try simp at hb) | omega | exact rfl | exact Nat.le_refl _ | (show _ + 1 ≤ 4294967296; omega) | (show _ + 1 ≤ 5864062014634; omega) | (dsimp only; omega) | (show (_ : Int) ≤ (_ : Int); omega) | (show _ < List.length _; simp only [List.length_set, List.length_append, List.length_take]; omega) | (show wantB _ _ = true; simp <;> omega) | (show (_ : Bool) = _; simp_all; done) | (exfalso; omega) | refine aRegion_auto (by decide +kernel) ?_ | fail))
  apply exEff
  · refine acall_lend [.dat (.list int)] _ _ _ rfl ?_ rfl ?_
    · (repeat' (first | exact trivial | refine And.intro ?_ ?_ | (show _ ≤ _; omega) | (show _ ≤ _; simp; done)))
    refine acall_arg (or_any G [Shp.hf d - Shp.hf e, Shp.sgZ (Shp.cross e d)] (by simp) _ ?_) rfl
    rw [eo]
    refine And.intro rfl ?_
    exact ⟨rfl, rfl⟩
  (repeat' (first | exact trivial | exact fun h => h | refine And.intro ?_ ?_ | (intro hb; try simp at hb) | omega | exact rfl | exact Nat.le_refl _ | (show _ + 1 ≤ 4294967296; omega) | (show _ + 1 ≤ 5864062014634; omega) | (dsimp only; omega) | (show (_ : Int) ≤ (_ : Int); omega) | (show _ < List.length _; simp only [List.length_set, List.length_append, List.length_take]; omega) | (show wantB _ _ = true; simp <;> omega) | (show (_ : Bool) = _; simp_all; done) | (exfalso; omega) | refine aRegion_auto (by decide +kernel) ?_ | fail))
  refine ⟨_, _, REnt.drop ⟨rfl, rfl⟩, ?_⟩
  exact hK
theorem clockwise_any (G : List (Nat × Value)) (d e : Int × Int) (hd : dfB d) (he : dfB e) (K : AV → List AO → Prop) (hK : K (.fz int (Shp.clk d e)) []) : ACall Tryd.prog G 74 [.fz SpT d, .fz SpT e] [] K := by
  unfold dfB at hd he
  have m1 := mulb (a := d.1) (b := e.2) (by omega) (by omega)
  have m2 := mulb (a := d.2) (b := e.1) (by omega) (by omega)
  have m3 := mulb (a := d.1) (b := e.1) (by omega) (by omega)
  have m4 := mulb (a := d.2) (b := e.2) (by omega) (by omega)
  have ec : d.1 * e.2 - d.2 * e.1 = Shp.cross d e := by unfold Shp.cross; rw [Int.mul_comm e.1]
  have ed : d.1 * e.1 + d.2 * e.2 = Shp.dot d e := rfl
  unfold Shp.clk at hK
  rw [← ec, ← ed] at hK
  by_cases c1 : d.1 * e.2 - d.2 * e.1 < 0
  · rw [if_pos c1] at hK
    refine acall_mk (E := envAt G 35 0) (envOk _ _ _) Tryd.func74 rfl rfl rfl rfl rfl ?_
    (repeat' (first | exact trivial | exact fun h => h | refine And.intro ?_ ?_ | (intro hb; try simp at hb) | omega | exact rfl | exact Nat.le_refl _ | (show _ + 1 ≤ 4294967296; omega) | (show _ + 1 ≤ 5864062014634; omega) | (dsimp only; omega) | (show (_ : Int) ≤ (_ : Int); omega) | (show _ < List.length _; simp only [List.length_set, List.length_append, List.length_take]; omega) | (show wantB _ _ = true; simp <;> omega) | (show (_ : Bool) = _; simp_all; done) | (exfalso; omega) | refine aRegion_auto (by decide +kernel) ?_ | refine ⟨_, _, REnt.drop ⟨rfl, rfl⟩, ?_⟩ | fail))
    exact hK
  · rw [if_neg c1] at hK
    by_cases c2 : 0 < d.1 * e.2 - d.2 * e.1
    · rw [if_pos c2] at hK
      refine acall_mk (E := envAt G 35 0) (envOk _ _ _) Tryd.func74 rfl rfl rfl rfl rfl ?_
      (repeat' (first | exact trivial | exact fun h => h | refine And.intro ?_ ?_ | (intro hb; try simp at hb) | omega | exact rfl | exact Nat.le_refl _ | (show _ + 1 ≤ 4294967296; omega) | (show _ + 1 ≤ 5864062014634; omega) | (dsimp only; omega) | (show (_ : Int) ≤ (_ : Int); omega) | (show _ < List.length _; simp only [List.length_set, List.length_append, List.length_take]; omega) | (show wantB _ _ = true; simp <;> omega) | (show (_ : Bool) = _; simp_all; done) | (exfalso; omega) | refine aRegion_auto (by decide +kernel) ?_ | refine ⟨_, _, REnt.drop ⟨rfl, rfl⟩, ?_⟩ | fail))
      exact hK
    · rw [if_neg c2] at hK
      by_cases c3 : 0 < d.1 * e.1 + d.2 * e.2
      · rw [if_pos c3] at hK
        refine acall_mk (E := envAt G 35 0) (envOk _ _ _) Tryd.func74 rfl rfl rfl rfl rfl ?_
        (repeat' (first | exact trivial | exact fun h => h | refine And.intro ?_ ?_ | (intro hb; try simp at hb) | omega | exact rfl | exact Nat.le_refl _ | (show _ + 1 ≤ 4294967296; omega) | (show _ + 1 ≤ 5864062014634; omega) | (dsimp only; omega) | (show (_ : Int) ≤ (_ : Int); omega) | (show _ < List.length _; simp only [List.length_set, List.length_append, List.length_take]; omega) | (show wantB _ _ = true; simp <;> omega) | (show (_ : Bool) = _; simp_all; done) | (exfalso; omega) | refine aRegion_auto (by decide +kernel) ?_ | refine ⟨_, _, REnt.drop ⟨rfl, rfl⟩, ?_⟩ | fail))
        exact hK
      · rw [if_neg c3] at hK
        refine acall_mk (E := envAt G 35 0) (envOk _ _ _) Tryd.func74 rfl rfl rfl rfl rfl ?_
        (repeat' (first | exact trivial | exact fun h => h | refine And.intro ?_ ?_ | (intro hb; try simp at hb) | omega | exact rfl | exact Nat.le_refl _ | (show _ + 1 ≤ 4294967296; omega) | (show _ + 1 ≤ 5864062014634; omega) | (dsimp only; omega) | (show (_ : Int) ≤ (_ : Int); omega) | (show _ < List.length _; simp only [List.length_set, List.length_append, List.length_take]; omega) | (show wantB _ _ = true; simp <;> omega) | (show (_ : Bool) = _; simp_all; done) | (exfalso; omega) | refine aRegion_auto (by decide +kernel) ?_ | refine ⟨_, _, REnt.drop ⟨rfl, rfl⟩, ?_⟩ | fail))
        exact hK
theorem sooner_any (G : List (Nat × Value)) (f a b : Int × Int) (hf : dfB f) (ha : dfB a) (hb : dfB b) (K : AV → List AO → Prop) (hK : K (.fz .bool (Shp.soon f a b)) []) : ACall Tryd.prog G 59 [.fz SpT f, .fz SpT a, .fz SpT b] [] K := by
  have hf' := hf
  have ha' := ha
  have hb' := hb
  unfold dfB at hf' ha' hb'
  have m1 := mulb (a := a.1) (b := b.2) (by omega) (by omega)
  have m2 := mulb (a := a.2) (b := b.1) (by omega) (by omega)
  have ec : a.1 * b.2 - a.2 * b.1 = Shp.cross a b := by unfold Shp.cross; rw [Int.mul_comm b.1]
  unfold Shp.soon at hK
  rw [← ec] at hK
  refine acall_mk (E := envAt G 33 0) (envOk _ _ _) Tryd.func59 rfl rfl rfl rfl rfl ?_
  (repeat' (first | exact trivial | exact fun h => h | refine And.intro ?_ ?_ | (intro hb; try simp at hb) | omega | exact rfl | exact Nat.le_refl _ | (show _ + 1 ≤ 4294967296; omega) | (show _ + 1 ≤ 5864062014634; omega) | (dsimp only; omega) | (show (_ : Int) ≤ (_ : Int); omega) | (show _ < List.length _; simp only [List.length_set, List.length_append, List.length_take]; omega) | (show wantB _ _ = true; simp <;> omega) | (show (_ : Bool) = _; simp_all; done) | (exfalso; omega) | refine aRegion_auto (by decide +kernel) ?_ | fail))
  refine acall_conv [.dat SpT, .dat SpT] _ _ _ rfl trivial (acall_frame0 rfl (clockwise_any _ f a hf ha _ ?_))
  (repeat' (first | exact trivial | exact fun h => h | refine And.intro ?_ ?_ | (intro hb; try simp at hb) | omega | exact rfl | exact Nat.le_refl _ | (show _ + 1 ≤ 4294967296; omega) | (show _ + 1 ≤ 5864062014634; omega) | (dsimp only; omega) | (show (_ : Int) ≤ (_ : Int); omega) | (show _ < List.length _; simp only [List.length_set, List.length_append, List.length_take]; omega) | (show wantB _ _ = true; simp <;> omega) | (show (_ : Bool) = _; simp_all; done) | (exfalso; omega) | refine aRegion_auto (by decide +kernel) ?_ | fail))
  refine acall_conv [.dat SpT, .dat SpT] _ _ _ rfl trivial (acall_frame0 rfl (clockwise_any _ f b hf hb _ ?_))
  by_cases c : Shp.clk f a = Shp.clk f b
  · rw [if_pos c] at hK
    (repeat' (first | exact trivial | exact fun h => h | refine And.intro ?_ ?_ | (intro hb; try simp at hb) | omega | exact rfl | exact Nat.le_refl _ | (show _ + 1 ≤ 4294967296; omega) | (show _ + 1 ≤ 5864062014634; omega) | (dsimp only; omega) | (show (_ : Int) ≤ (_ : Int); omega) | (show _ < List.length _; simp only [List.length_set, List.length_append, List.length_take]; omega) | (show wantB _ _ = true; simp <;> omega) | (show (_ : Bool) = _; simp_all; done) | (exfalso; omega) | refine aRegion_auto (by decide +kernel) ?_ | refine ⟨_, _, REnt.drop ⟨rfl, rfl⟩, ?_⟩ | fail))
    exact hK
  · rw [if_neg c] at hK
    (repeat' (first | exact trivial | exact fun h => h | refine And.intro ?_ ?_ | (intro hb; try simp at hb) | omega | exact rfl | exact Nat.le_refl _ | (show _ + 1 ≤ 4294967296; omega) | (show _ + 1 ≤ 5864062014634; omega) | (dsimp only; omega) | (show (_ : Int) ≤ (_ : Int); omega) | (show _ < List.length _; simp only [List.length_set, List.length_append, List.length_take]; omega) | (show wantB _ _ = true; simp <;> omega) | (show (_ : Bool) = _; simp_all; done) | (exfalso; omega) | refine aRegion_auto (by decide +kernel) ?_ | refine ⟨_, _, REnt.drop ⟨rfl, rfl⟩, ?_⟩ | fail))
    exact hK
end Go.Proofs.YtcfalmdfohphoaaDoor
/-
  Pieces of arcs: the walks.
-/
namespace Go.Proofs.YtcfalmdfohphoaaDoor
open Go Go.Ab
set_option maxRecDepth 100000
theorem isNode_any (G : List (Nat × Value)) (a : List (Int × Int)) (k : Nat) (x : Int × Int) (hk : k + 1 < a.length) (hl : a.length ≤ 1000000) (K : AV → List AO → Prop) (hK : K (.fz .bool (Shp.ndB a k x)) []) : ACall Tryd.prog G 46 [.fz (.list SpT) a, .fz int k, .fz SpT x] [] K := by
  have f1 : ((a.length : Int) - 1).toNat = a.length - 1 := by omega
  have e0 : a.getD (Int.toNat 0) SpT.dft = Shp.at_ a 0 := rfl
  have e1 : a.getD (Int.toNat ((a.length : Int) - 1)) SpT.dft = Shp.at_ a (a.length - 1) := by rw [f1]; rfl
  refine acall_mk (E := envAt G 33 0) (envOk _ _ _) Tryd.func46 rfl rfl rfl rfl rfl ?_
  (repeat' (first | exact trivial | exact fun h => h | refine And.intro ?_ ?_ | (intro hb; try simp at hb) | omega | exact rfl | exact Nat.le_refl _ | (show _ + 1 ≤ 4294967296; omega) | (show _ + 1 ≤ 5864062014634; omega) | (dsimp only; omega) | (show (_ : Int) ≤ (_ : Int); omega) | (show _ < List.length _; simp only [List.length_set, List.length_append, List.length_take]; omega) | (show wantB _ _ = true; simp <;> omega) | (show (_ : Bool) = _; simp_all; done) | (exfalso; omega) | refine aRegion_auto (by decide +kernel) ?_ | refine ⟨_, _, REnt.drop ⟨rfl, rfl⟩, ?_⟩ | fail))
  all_goals try (simp [wantB]; simp_all; done)
  refine kbl hK ?_
  have q0 := eqS x (Shp.at_ a 0)
  have q1 := eqS x (Shp.at_ a (a.length - 1))
  rw [e0, e1]
  show _ = bif (bif (k : Int) == 0 then eqL [x.1, x.2] [(Shp.at_ a 0).1, (Shp.at_ a 0).2] else false) then true else bif (k : Int) == (a.length : Int) - 2 then eqL [x.1, x.2] [(Shp.at_ a (a.length - 1)).1, (Shp.at_ a (a.length - 1)).2] else false
  rw [q0, q1]
  unfold Shp.ndB
  have g0 : ((k : Int) == 0) = decide (k = 0) := by rw [Bool.eq_iff_iff]; simp
  have g1 : ((k : Int) == (a.length : Int) - 2) = decide (k + 2 = a.length) := by rw [Bool.eq_iff_iff]; simp; omega
  rw [g0, g1]
  cases decide (k = 0) <;> cases decide (k + 2 = a.length) <;> cases decide (x = Shp.at_ a 0) <;> cases decide (x = Shp.at_ a (a.length - 1)) <;> rfl
theorem in_any (G : List (Nat × Value)) (p q r x : Int × Int) (hp : plB p = true) (hq : plB q = true) (hr : plB r = true) (hx : plB x = true) (K : AV → List AO → Prop) (hK : K (.fz .bool (Shp.tri p q r x)) []) : ACall Tryd.prog G 52 [.fz SpT p, .fz SpT q, .fz SpT r, .fz SpT x] [] K := by
  refine acall_mk (E := envAt G 72 0) (envOk _ _ _) Tryd.func52 rfl rfl rfl rfl rfl ?_
  (repeat' (first | exact trivial | exact fun h => h | refine And.intro ?_ ?_ | (intro hb; try simp at hb) | omega | exact rfl | exact Nat.le_refl _ | (show _ + 1 ≤ 4294967296; omega) | (show _ + 1 ≤ 5864062014634; omega) | (dsimp only; omega) | (show (_ : Int) ≤ (_ : Int); omega) | (show _ < List.length _; simp only [List.length_set, List.length_append, List.length_take]; omega) | (show wantB _ _ = true; simp <;> omega) | (show (_ : Bool) = _; simp_all; done) | (exfalso; omega) | refine aRegion_auto (by decide +kernel) ?_ | fail))
  apply exEff
  · refine acall_conv [.dat SpT, .dat SpT, .dat SpT] _ _ _ rfl trivial (acall_frame0 rfl (side_any _ p q x hp hq hx _ ?_))
    exact ⟨rfl, rfl⟩
  (repeat' (first | exact trivial | exact fun h => h | refine And.intro ?_ ?_ | (intro hb; try simp at hb) | omega | exact rfl | exact Nat.le_refl _ | (show _ + 1 ≤ 4294967296; omega) | (show _ + 1 ≤ 5864062014634; omega) | (dsimp only; omega) | (show (_ : Int) ≤ (_ : Int); omega) | (show _ < List.length _; simp only [List.length_set, List.length_append, List.length_take]; omega) | (show wantB _ _ = true; simp <;> omega) | (show (_ : Bool) = _; simp_all; done) | (exfalso; omega) | refine aRegion_auto (by decide +kernel) ?_ | fail))
  apply exEff
  · refine acall_frame0 rfl (sign_any _ _ _ ?_)
    exact ⟨rfl, rfl⟩
  (repeat' (first | exact trivial | exact fun h => h | refine And.intro ?_ ?_ | (intro hb; try simp at hb) | omega | exact rfl | exact Nat.le_refl _ | (show _ + 1 ≤ 4294967296; omega) | (show _ + 1 ≤ 5864062014634; omega) | (dsimp only; omega) | (show (_ : Int) ≤ (_ : Int); omega) | (show _ < List.length _; simp only [List.length_set, List.length_append, List.length_take]; omega) | (show wantB _ _ = true; simp <;> omega) | (show (_ : Bool) = _; simp_all; done) | (exfalso; omega) | refine aRegion_auto (by decide +kernel) ?_ | fail))
  apply exEff
  · refine acall_conv [.dat SpT, .dat SpT, .dat SpT] _ _ _ rfl trivial (acall_frame0 rfl (side_any _ q r x hq hr hx _ ?_))
    exact ⟨rfl, rfl⟩
  (repeat' (first | exact trivial | exact fun h => h | refine And.intro ?_ ?_ | (intro hb; try simp at hb) | omega | exact rfl | exact Nat.le_refl _ | (show _ + 1 ≤ 4294967296; omega) | (show _ + 1 ≤ 5864062014634; omega) | (dsimp only; omega) | (show (_ : Int) ≤ (_ : Int); omega) | (show _ < List.length _; simp only [List.length_set, List.length_append, List.length_take]; omega) | (show wantB _ _ = true; simp <;> omega) | (show (_ : Bool) = _; simp_all; done) | (exfalso; omega) | refine aRegion_auto (by decide +kernel) ?_ | fail))
  apply exEff
  · refine acall_frame0 rfl (sign_any _ _ _ ?_)
    exact ⟨rfl, rfl⟩
  (repeat' (first | exact trivial | exact fun h => h | refine And.intro ?_ ?_ | (intro hb; try simp at hb) | omega | exact rfl | exact Nat.le_refl _ | (show _ + 1 ≤ 4294967296; omega) | (show _ + 1 ≤ 5864062014634; omega) | (dsimp only; omega) | (show (_ : Int) ≤ (_ : Int); omega) | (show _ < List.length _; simp only [List.length_set, List.length_append, List.length_take]; omega) | (show wantB _ _ = true; simp <;> omega) | (show (_ : Bool) = _; simp_all; done) | (exfalso; omega) | refine aRegion_auto (by decide +kernel) ?_ | fail))
  apply exEff
  · refine acall_conv [.dat SpT, .dat SpT, .dat SpT] _ _ _ rfl trivial (acall_frame0 rfl (side_any _ r p x hr hp hx _ ?_))
    exact ⟨rfl, rfl⟩
  (repeat' (first | exact trivial | exact fun h => h | refine And.intro ?_ ?_ | (intro hb; try simp at hb) | omega | exact rfl | exact Nat.le_refl _ | (show _ + 1 ≤ 4294967296; omega) | (show _ + 1 ≤ 5864062014634; omega) | (dsimp only; omega) | (show (_ : Int) ≤ (_ : Int); omega) | (show _ < List.length _; simp only [List.length_set, List.length_append, List.length_take]; omega) | (show wantB _ _ = true; simp <;> omega) | (show (_ : Bool) = _; simp_all; done) | (exfalso; omega) | refine aRegion_auto (by decide +kernel) ?_ | fail))
  apply exEff
  · refine acall_frame0 rfl (sign_any _ _ _ ?_)
    exact ⟨rfl, rfl⟩
  (repeat' (first | exact trivial | exact fun h => h | refine And.intro ?_ ?_ | (intro hb; try simp at hb) | omega | exact rfl | exact Nat.le_refl _ | (show _ + 1 ≤ 4294967296; omega) | (show _ + 1 ≤ 5864062014634; omega) | (dsimp only; omega) | (show (_ : Int) ≤ (_ : Int); omega) | (show _ < List.length _; simp only [List.length_set, List.length_append, List.length_take]; omega) | (show wantB _ _ = true; simp <;> omega) | (show (_ : Bool) = _; simp_all; done) | (exfalso; omega) | refine aRegion_auto (by decide +kernel) ?_ | fail))
  refine acall_conv [.dat SpT, .dat SpT, .dat SpT] _ _ _ rfl trivial (acall_frame0 rfl (side_any _ p q r hp hq hr _ ?_))
  unfold Shp.tri at hK
  by_cases c : Shp.side p q r = 0
  · rw [if_pos c] at hK
    (repeat' (first | exact trivial | exact fun h => h | refine And.intro ?_ ?_ | (intro hb; try simp at hb) | omega | exact rfl | exact Nat.le_refl _ | (show _ + 1 ≤ 4294967296; omega) | (show _ + 1 ≤ 5864062014634; omega) | (dsimp only; omega) | (show (_ : Int) ≤ (_ : Int); omega) | (show _ < List.length _; simp only [List.length_set, List.length_append, List.length_take]; omega) | (show wantB _ _ = true; simp <;> omega) | (show (_ : Bool) = _; simp_all; done) | (exfalso; omega) | refine aRegion_auto (by decide +kernel) ?_ | fail))
    refine acall_conv [.dat SpT, .dat SpT, .dat SpT] _ _ _ rfl trivial (acall_frame0 rfl (on_any _ p q x hp hq hx _ ?_))
    (repeat' (first | exact trivial | exact fun h => h | refine And.intro ?_ ?_ | (intro hb; try simp at hb) | omega | exact rfl | exact Nat.le_refl _ | (show _ + 1 ≤ 4294967296; omega) | (show _ + 1 ≤ 5864062014634; omega) | (dsimp only; omega) | (show (_ : Int) ≤ (_ : Int); omega) | (show _ < List.length _; simp only [List.length_set, List.length_append, List.length_take]; omega) | (show wantB _ _ = true; simp <;> omega) | (show (_ : Bool) = _; simp_all; done) | (exfalso; omega) | refine aRegion_auto (by decide +kernel) ?_ | fail))
    refine acall_conv [.dat SpT, .dat SpT, .dat SpT] _ _ _ rfl trivial (acall_frame0 rfl (on_any _ q r x hq hr hx _ ?_))
    (repeat' (first | exact trivial | exact fun h => h | refine And.intro ?_ ?_ | (intro hb; try simp at hb) | omega | exact rfl | exact Nat.le_refl _ | (show _ + 1 ≤ 4294967296; omega) | (show _ + 1 ≤ 5864062014634; omega) | (dsimp only; omega) | (show (_ : Int) ≤ (_ : Int); omega) | (show _ < List.length _; simp only [List.length_set, List.length_append, List.length_take]; omega) | (show wantB _ _ = true; simp <;> omega) | (show (_ : Bool) = _; simp_all; done) | (exfalso; omega) | refine aRegion_auto (by decide +kernel) ?_ | fail))
    refine acall_conv [.dat SpT, .dat SpT, .dat SpT] _ _ _ rfl trivial (acall_frame0 rfl (on_any _ r p x hr hp hx _ ?_))
    (repeat' (first | exact trivial | exact fun h => h | refine And.intro ?_ ?_ | (intro hb; try simp at hb) | omega | exact rfl | exact Nat.le_refl _ | (show _ + 1 ≤ 4294967296; omega) | (show _ + 1 ≤ 5864062014634; omega) | (dsimp only; omega) | (show (_ : Int) ≤ (_ : Int); omega) | (show _ < List.length _; simp only [List.length_set, List.length_append, List.length_take]; omega) | (show wantB _ _ = true; simp <;> omega) | (show (_ : Bool) = _; simp_all; done) | (exfalso; omega) | refine aRegion_auto (by decide +kernel) ?_ | refine ⟨_, _, REnt.drop ⟨rfl, rfl⟩, ?_⟩ | fail))
    all_goals
      refine kbl hK ?_
      simp_all
  · rw [if_neg c] at hK
    (repeat' (first | exact trivial | exact fun h => h | refine And.intro ?_ ?_ | (intro hb; try simp at hb) | omega | exact rfl | exact Nat.le_refl _ | (show _ + 1 ≤ 4294967296; omega) | (show _ + 1 ≤ 5864062014634; omega) | (dsimp only; omega) | (show (_ : Int) ≤ (_ : Int); omega) | (show _ < List.length _; simp only [List.length_set, List.length_append, List.length_take]; omega) | (show wantB _ _ = true; simp <;> omega) | (show (_ : Bool) = _; simp_all; done) | (exfalso; omega) | refine aRegion_auto (by decide +kernel) ?_ | refine ⟨_, _, REnt.drop ⟨rfl, rfl⟩, ?_⟩ | fail))
    refine kbl hK ?_
    generalize decide (Shp.sgZ (Shp.side p q x) < 0) = b1
    generalize decide (Shp.sgZ (Shp.side q r x) < 0) = b2
    generalize decide (Shp.sgZ (Shp.side r p x) < 0) = b3
    generalize decide (0 < Shp.sgZ (Shp.side p q x)) = b4
    generalize decide (0 < Shp.sgZ (Shp.side q r x)) = b5
    generalize decide (0 < Shp.sgZ (Shp.side r p x)) = b6
    cases b1 <;> cases b2 <;> cases b3 <;> cases b4 <;> cases b5 <;> cases b6 <;> rfl
theorem inTriangle_any (G : List (Nat × Value)) (p q r x : Int × Int) (hp : plB p = true) (hq : plB q = true) (hr : plB r = true) (hx : plB x = true) (K : AV → List AO → Prop) (hK : K (.fz .bool (Shp.tri2 p q r x)) []) : ACall Tryd.prog G 60 [.fz SpT p, .fz SpT q, .fz SpT r, .fz SpT x] [] K := by
  refine acall_mk (E := envAt G 61 0) (envOk _ _ _) Tryd.func60 rfl rfl rfl rfl rfl ?_
  (repeat' (first | exact trivial | exact fun h => h | refine And.intro ?_ ?_ | (intro hb; try simp at hb) | omega | exact rfl | exact Nat.le_refl _ | (show _ + 1 ≤ 4294967296; omega) | (show _ + 1 ≤ 5864062014634; omega) | (dsimp only; omega) | (show (_ : Int) ≤ (_ : Int); omega) | (show _ < List.length _; simp only [List.length_set, List.length_append, List.length_take]; omega) | (show wantB _ _ = true; simp <;> omega) | (show (_ : Bool) = _; simp_all; done) | (exfalso; omega) | refine aRegion_auto (by decide +kernel) ?_ | fail))
  refine acall_conv [.dat SpT, .dat SpT, .dat SpT] _ _ _ rfl trivial (acall_frame0 rfl (onPiece_any _ p q x hp hq hx _ ?_))
  (repeat' (first | exact trivial | exact fun h => h | refine And.intro ?_ ?_ | (intro hb; try simp at hb) | omega | exact rfl | exact Nat.le_refl _ | (show _ + 1 ≤ 4294967296; omega) | (show _ + 1 ≤ 5864062014634; omega) | (dsimp only; omega) | (show (_ : Int) ≤ (_ : Int); omega) | (show _ < List.length _; simp only [List.length_set, List.length_append, List.length_take]; omega) | (show wantB _ _ = true; simp <;> omega) | (show (_ : Bool) = _; simp_all; done) | (exfalso; omega) | refine aRegion_auto (by decide +kernel) ?_ | fail))
  refine acall_conv [.dat SpT, .dat SpT, .dat SpT] _ _ _ rfl trivial (acall_frame0 rfl (onPiece_any _ q r x hq hr hx _ ?_))
  (repeat' (first | exact trivial | exact fun h => h | refine And.intro ?_ ?_ | (intro hb; try simp at hb) | omega | exact rfl | exact Nat.le_refl _ | (show _ + 1 ≤ 4294967296; omega) | (show _ + 1 ≤ 5864062014634; omega) | (dsimp only; omega) | (show (_ : Int) ≤ (_ : Int); omega) | (show _ < List.length _; simp only [List.length_set, List.length_append, List.length_take]; omega) | (show wantB _ _ = true; simp <;> omega) | (show (_ : Bool) = _; simp_all; done) | (exfalso; omega) | refine aRegion_auto (by decide +kernel) ?_ | fail))
  refine acall_conv [.dat SpT, .dat SpT, .dat SpT] _ _ _ rfl trivial (acall_frame0 rfl (onPiece_any _ r p x hr hp hx _ ?_))
  unfold Shp.tri2 at hK
  by_cases c : (Shp.on p q x || Shp.on q r x || Shp.on r p x) = true
  · rw [if_pos c] at hK
    (repeat' (first | exact trivial | exact fun h => h | refine And.intro ?_ ?_ | (intro hb; try simp at hb) | omega | exact rfl | exact Nat.le_refl _ | (show _ + 1 ≤ 4294967296; omega) | (show _ + 1 ≤ 5864062014634; omega) | (dsimp only; omega) | (show (_ : Int) ≤ (_ : Int); omega) | (show _ < List.length _; simp only [List.length_set, List.length_append, List.length_take]; omega) | (show wantB _ _ = true; simp <;> omega) | (show (_ : Bool) = _; simp_all; done) | (exfalso; omega) | refine aRegion_auto (by decide +kernel) ?_ | refine ⟨_, _, REnt.drop ⟨rfl, rfl⟩, ?_⟩ | fail))
    · exact hK
    · obtain ⟨⟨h1, h2⟩, h3⟩ := hb
      rw [h1, h2, h3] at c
      cases c
  · rw [if_neg c] at hK
    (repeat' (first | exact trivial | exact fun h => h | refine And.intro ?_ ?_ | (intro hb; try simp at hb) | omega | exact rfl | exact Nat.le_refl _ | (show _ + 1 ≤ 4294967296; omega) | (show _ + 1 ≤ 5864062014634; omega) | (dsimp only; omega) | (show (_ : Int) ≤ (_ : Int); omega) | (show _ < List.length _; simp only [List.length_set, List.length_append, List.length_take]; omega) | (show wantB _ _ = true; simp <;> omega) | (show (_ : Bool) = _; simp_all; done) | (exfalso; omega) | refine aRegion_auto (by decide +kernel) ?_ | fail))
    · exact absurd (by simp only [Bool.or_eq_true]; exact hb) c
    refine acall_conv [.dat SpT, .dat SpT, .dat SpT] _ _ _ rfl trivial (acall_frame0 rfl (turn_any _ p q x hp hq hx _ ?_))
    (repeat' (first | exact trivial | exact fun h => h | refine And.intro ?_ ?_ | (intro hb; try simp at hb) | omega | exact rfl | exact Nat.le_refl _ | (show _ + 1 ≤ 4294967296; omega) | (show _ + 1 ≤ 5864062014634; omega) | (dsimp only; omega) | (show (_ : Int) ≤ (_ : Int); omega) | (show _ < List.length _; simp only [List.length_set, List.length_append, List.length_take]; omega) | (show wantB _ _ = true; simp <;> omega) | (show (_ : Bool) = _; simp_all; done) | (exfalso; omega) | refine aRegion_auto (by decide +kernel) ?_ | fail))
    refine acall_frame0 rfl (signOf_any _ _ _ ?_)
    (repeat' (first | exact trivial | exact fun h => h | refine And.intro ?_ ?_ | (intro hb; try simp at hb) | omega | exact rfl | exact Nat.le_refl _ | (show _ + 1 ≤ 4294967296; omega) | (show _ + 1 ≤ 5864062014634; omega) | (dsimp only; omega) | (show (_ : Int) ≤ (_ : Int); omega) | (show _ < List.length _; simp only [List.length_set, List.length_append, List.length_take]; omega) | (show wantB _ _ = true; simp <;> omega) | (show (_ : Bool) = _; simp_all; done) | (exfalso; omega) | refine aRegion_auto (by decide +kernel) ?_ | fail))
    refine acall_conv [.dat SpT, .dat SpT, .dat SpT] _ _ _ rfl trivial (acall_frame0 rfl (turn_any _ q r x hq hr hx _ ?_))
    (repeat' (first | exact trivial | exact fun h => h | refine And.intro ?_ ?_ | (intro hb; try simp at hb) | omega | exact rfl | exact Nat.le_refl _ | (show _ + 1 ≤ 4294967296; omega) | (show _ + 1 ≤ 5864062014634; omega) | (dsimp only; omega) | (show (_ : Int) ≤ (_ : Int); omega) | (show _ < List.length _; simp only [List.length_set, List.length_append, List.length_take]; omega) | (show wantB _ _ = true; simp <;> omega) | (show (_ : Bool) = _; simp_all; done) | (exfalso; omega) | refine aRegion_auto (by decide +kernel) ?_ | fail))
    refine acall_frame0 rfl (signOf_any _ _ _ ?_)
    (repeat' (first | exact trivial | exact fun h => h | refine And.intro ?_ ?_ | (intro hb; try simp at hb) | omega | exact rfl | exact Nat.le_refl _ | (show _ + 1 ≤ 4294967296; omega) | (show _ + 1 ≤ 5864062014634; omega) | (dsimp only; omega) | (show (_ : Int) ≤ (_ : Int); omega) | (show _ < List.length _; simp only [List.length_set, List.length_append, List.length_take]; omega) | (show wantB _ _ = true; simp <;> omega) | (show (_ : Bool) = _; simp_all; done) | (exfalso; omega) | refine aRegion_auto (by decide +kernel) ?_ | fail))
    refine acall_conv [.dat SpT, .dat SpT, .dat SpT] _ _ _ rfl trivial (acall_frame0 rfl (turn_any _ r p x hr hp hx _ ?_))
    (repeat' (first | exact trivial | exact fun h => h | refine And.intro ?_ ?_ | (intro hb; try simp at hb) | omega | exact rfl | exact Nat.le_refl _ | (show _ + 1 ≤ 4294967296; omega) | (show _ + 1 ≤ 5864062014634; omega) | (dsimp only; omega) | (show (_ : Int) ≤ (_ : Int); omega) | (show _ < List.length _; simp only [List.length_set, List.length_append, List.length_take]; omega) | (show wantB _ _ = true; simp <;> omega) | (show (_ : Bool) = _; simp_all; done) | (exfalso; omega) | refine aRegion_auto (by decide +kernel) ?_ | fail))
    refine acall_frame0 rfl (signOf_any _ _ _ ?_)
    (repeat' (first | exact trivial | exact fun h => h | refine And.intro ?_ ?_ | (intro hb; try simp at hb) | omega | exact rfl | exact Nat.le_refl _ | (show _ + 1 ≤ 4294967296; omega) | (show _ + 1 ≤ 5864062014634; omega) | (dsimp only; omega) | (show (_ : Int) ≤ (_ : Int); omega) | (show _ < List.length _; simp only [List.length_set, List.length_append, List.length_take]; omega) | (show wantB _ _ = true; simp <;> omega) | (show (_ : Bool) = _; simp_all; done) | (exfalso; omega) | refine aRegion_auto (by decide +kernel) ?_ | refine ⟨_, _, REnt.drop ⟨rfl, rfl⟩, ?_⟩ | fail))
    refine kbl hK ?_
    rw [Bool.eq_iff_iff]
    simp [and_assoc]
end Go.Proofs.YtcfalmdfohphoaaDoor
/-
  All pieces of a map: the walk.
-/
namespace Shp
abbrev Pc := Sp × Sp × Int × Int
def pcA (a : List Sp) (i n : Nat) : List Pc := (List.range n).map fun k => (at_ a k, at_ a (k + 1), (i : Int), (k : Int))
def pcs (m : Arcs) : Nat → List Pc
  | 0 => []
  | i + 1 => pcs m i ++ pcA (arc m i) i ((arc m i).length - 1)
theorem pcA_len (a : List Sp) (i n : Nat) : (pcA a i n).length = n := by simp [pcA]
theorem pcA_next (a : List Sp) (i n : Nat) : pcA a i (n + 1) = pcA a i n ++ [(at_ a n, at_ a (n + 1), (i : Int), (n : Int))] := by
  unfold pcA; rw [List.range_succ, List.map_append]; rfl
theorem pcs_len {m : Arcs} (h : ∀ i, i < m.length → (arc m i).length ≤ 10000) : ∀ j, j ≤ m.length → (pcs m j).length ≤ j * 10000
  | 0, _ => by simp [pcs]
  | j + 1, hj => by
    have ih := pcs_len h j (by omega)
    have := h j (by omega)
    rw [pcs, List.length_append, pcA_len]
    omega
theorem arc_getD (m : Arcs) (i : Nat) : m.getD i [] = arc m i := rfl
end Shp
namespace Go.Proofs.YtcfalmdfohphoaaDoor
open Go Go.Ab
set_option maxRecDepth 100000
abbrev PcT : Ty := .pair SpT (.pair SpT (.pair int int))
set_option maxHeartbeats 4000000 in
theorem pieces_any (G : List (Nat × Value)) (m : Shp.Arcs) (B : MB m) (K : AV → List AO → Prop) (hK : K (.fz (.list PcT) (Shp.pcs m m.length)) []) : ACall Tryd.prog G 39 [.fz MpT m] [] K := by
  have hb0 := B.few
  refine acall_mk (E := envAt G 39 0) (envOk _ _ _) Tryd.func39 rfl rfl rfl rfl rfl ?_
  (repeat' (first | exact trivial | exact fun h => h | refine And.intro ?_ ?_ | (intro hb; try simp at hb) | omega | exact rfl | exact Nat.le_refl _ | (show _ + 1 ≤ 4294967296; omega) | (show _ + 1 ≤ 5864062014634; omega) | (dsimp only; omega) | (show (_ : Int) ≤ (_ : Int); omega) | (show _ < List.length _; simp only [List.length_set, List.length_append, List.length_take]; omega) | (show wantB _ _ = true; simp <;> omega) | (show (_ : Bool) = _; simp_all; done) | (exfalso; omega) | refine aRegion_auto (by decide +kernel) ?_ | fail))
  refine ⟨Nat, fun i => ⟨[(1, .ptr 0 0), (3, .ref 1 0 (Shp.pcs m i).length), (8, .fz (.list (.list SpT)) m), (9, .fz int m.length), (10, .fz int i)], [.box [.fz (.list (.list SpT)) m], .row PcT (Shp.pcs m i)]⟩, fun i => i ≤ m.length, fun i => m.length - i, 0, Nat.zero_le _, (Ent.nil 3 PcT rfl).trans (Ent.sub ?_ ?_), ?_⟩
  · rfl
  · (repeat' (first | exact trivial | exact rfl | refine And.intro ?_ ?_))
  intro i hi
  have hi : i ≤ m.length := hi
  have hpl := Shp.pcs_len B.len i hi
  by_cases hlt : i < m.length
  · have h2 := B.two i hlt
    have h3 := B.len i hlt
    obtain ⟨a, ha⟩ : ∃ a, Shp.arc m i = a := ⟨_, rfl⟩
    obtain ⟨L, hL⟩ : ∃ L, Shp.pcs m i = L := ⟨_, rfl⟩
    have hg : List.getD m (Int.toNat (i : Int)) SpT.list.dft = a := ha
    have hnx : Shp.pcs m (i + 1) = L ++ Shp.pcA a i (a.length - 1) := by rw [Shp.pcs, ha, hL]
    rw [ha] at h2 h3
    show awp _ _ _ ⟨[(1, .ptr 0 0), (3, .ref 1 0 (Shp.pcs m i).length), (8, .fz (.list (.list SpT)) m), (9, .fz int m.length), (10, .fz int i)], [.box [.fz (.list (.list SpT)) m], .row PcT (Shp.pcs m i)]⟩
    rw [hL] at hpl ⊢
    (repeat' (first | exact trivial | exact fun h => h | refine And.intro ?_ ?_ | (intro hb; try simp at hb) | omega | exact rfl | exact Nat.le_refl _ | (show _ + 1 ≤ 4294967296; omega) | (show _ + 1 ≤ 5864062014634; omega) | (dsimp only; omega) | (show (_ : Int) ≤ (_ : Int); omega) | (show _ < List.length _; simp only [List.length_set, List.length_append, List.length_take]; omega) | (show wantB _ _ = true; simp <;> omega) | (show (_ : Bool) = _; simp_all; done) | (exfalso; omega) | refine aRegion_auto (by decide +kernel) ?_ | fail))
    rw [hg]
    (repeat' (first | exact trivial | exact fun h => h | refine And.intro ?_ ?_ | (intro hb; try simp at hb) | omega | exact rfl | exact Nat.le_refl _ | (show _ + 1 ≤ 4294967296; omega) | (show _ + 1 ≤ 5864062014634; omega) | (dsimp only; omega) | (show (_ : Int) ≤ (_ : Int); omega) | (show _ < List.length _; simp only [List.length_set, List.length_append, List.length_take]; omega) | (show wantB _ _ = true; simp <;> omega) | (show (_ : Bool) = _; simp_all; done) | (exfalso; omega) | refine aRegion_auto (by decide +kernel) ?_ | fail))
    refine ⟨Nat, fun k => ⟨[(1, .ptr 0 0), (3, .ref 1 0 (L ++ Shp.pcA a i k).length), (4, .fz int i), (5, .fz (.list SpT) a), (8, .fz (.list (.list SpT)) m), (9, .fz int m.length), (10, .fz int i), (17, .fz int ((a.length : Int) - 1)), (18, .fz int k)], [.box [.fz (.list (.list SpT)) m], .row PcT (L ++ Shp.pcA a i k)]⟩, fun k => k + 1 ≤ a.length, fun k => a.length - k, 0, by omega, Ent.sub ?_ ?_, ?_⟩
    · rw [show Shp.pcA a i 0 = [] from rfl, List.append_nil]
    · (repeat' (first | exact trivial | exact rfl | refine And.intro ?_ ?_))
      · exact congrArg (fun l : List Shp.Pc => AV.ref 1 0 l.length) (show L = L ++ Shp.pcA a i 0 by rw [show Shp.pcA a i 0 = [] from rfl, List.append_nil])
      · exact congrArg (fun l => AV.fz (.list SpT) l) hg
      · exact congrArg (fun l : List Shp.Sp => AV.fz int ((l.length : Int) - 1)) hg
    intro k hk
    have hk : k + 1 ≤ a.length := hk
    have hnk := Shp.pcA_next a i k
    have hlk : (L ++ Shp.pcA a i k).length ≤ i * 10000 + k := by rw [List.length_append, Shp.pcA_len]; omega
    show awp _ _ _ ⟨[(1, .ptr 0 0), (3, .ref 1 0 (L ++ Shp.pcA a i k).length), (4, .fz int i), (5, .fz (.list SpT) a), (8, .fz (.list (.list SpT)) m), (9, .fz int m.length), (10, .fz int i), (17, .fz int ((a.length : Int) - 1)), (18, .fz int k)], [.box [.fz (.list (.list SpT)) m], .row PcT (L ++ Shp.pcA a i k)]⟩
    obtain ⟨M, hM⟩ : ∃ M, L ++ Shp.pcA a i k = M := ⟨_, rfl⟩
    rw [hM] at hlk ⊢
    by_cases hkl : k + 1 < a.length
    · (repeat' (first | exact trivial | exact fun h => h | refine And.intro ?_ ?_ | (intro hb; try simp at hb) | omega | exact rfl | exact Nat.le_refl _ | (show _ + 1 ≤ 4294967296; omega) | (show _ + 1 ≤ 5864062014634; omega) | (dsimp only; omega) | (show (_ : Int) ≤ (_ : Int); omega) | (show _ < List.length _; simp only [List.length_set, List.length_append, List.length_take]; omega) | (show wantB _ _ = true; simp <;> omega) | (show (_ : Bool) = _; simp_all; done) | (exfalso; omega) | refine aRegion_auto (by decide +kernel) ?_ | fail))
      (apply exEff; focus (repeat' (first | exact ⟨rfl, rfl⟩ | exact trivial | refine And.intro ?_ ?_ | omega | exact Nat.le_refl _ | (show _ + 1 ≤ 4294967296; omega) | (show _ + 1 ≤ 5864062014634; omega))))
      (repeat' (first | exact trivial | exact fun h => h | refine And.intro ?_ ?_ | (intro hb; try simp at hb) | omega | exact rfl | exact Nat.le_refl _ | (show _ + 1 ≤ 4294967296; omega) | (show _ + 1 ≤ 5864062014634; omega) | (dsimp only; omega) | (show (_ : Int) ≤ (_ : Int); omega) | (show _ < List.length _; simp only [List.length_set, List.length_append, List.length_take]; omega) | (show wantB _ _ = true; simp <;> omega) | (show (_ : Bool) = _; simp_all; done) | (exfalso; omega) | refine aRegion_auto (by decide +kernel) ?_ | fail))
      (apply exEff; focus (repeat' (first | exact ⟨rfl, rfl⟩ | exact trivial | refine And.intro ?_ ?_ | omega | exact Nat.le_refl _ | (show _ + 1 ≤ 4294967296; omega) | (show _ + 1 ≤ 5864062014634; omega))))
      (repeat' (first | exact trivial | exact fun h => h | refine And.intro ?_ ?_ | (intro hb; try simp at hb) | omega | exact rfl | exact Nat.le_refl _ | (show _ + 1 ≤ 4294967296; omega) | (show _ + 1 ≤ 5864062014634; omega) | (dsimp only; omega) | (show (_ : Int) ≤ (_ : Int); omega) | (show _ < List.length _; simp only [List.length_set, List.length_append, List.length_take]; omega) | (show wantB _ _ = true; simp <;> omega) | (show (_ : Bool) = _; simp_all; done) | (exfalso; omega) | refine aRegion_auto (by decide +kernel) ?_ | fail))
      refine ⟨k + 1, by show k + 1 + 1 ≤ a.length; omega, by show a.length - (k + 1) < a.length - k; omega, Ent.ren [0, 3] rfl ?_ ?_⟩
      · (repeat' (first | exact trivial | exact rfl | refine And.intro ?_ ?_))
        refine congrArg (fun l => some (AO.row PcT l)) (?_ : List.take M.length M ++ [(Shp.at_ a k, Shp.at_ a (k + 1), (i : Int), (k : Int))] = L ++ Shp.pcA a i (k + 1))
        rw [List.take_length, hnk, ← List.append_assoc, hM]
      · (repeat' (first | exact trivial | exact rfl | refine And.intro ?_ ?_))
        refine congrArg (AV.ref 3 0) (?_ : M.length + 1 = (L ++ Shp.pcA a i (k + 1)).length)
        rw [hnk, ← List.append_assoc, hM, List.length_append]; rfl
    · have hke : k = a.length - 1 := by omega
      (repeat' (first | exact trivial | exact fun h => h | refine And.intro ?_ ?_ | (intro hb; try simp at hb) | omega | exact rfl | exact Nat.le_refl _ | (show _ + 1 ≤ 4294967296; omega) | (show _ + 1 ≤ 5864062014634; omega) | (dsimp only; omega) | (show (_ : Int) ≤ (_ : Int); omega) | (show _ < List.length _; simp only [List.length_set, List.length_append, List.length_take]; omega) | (show wantB _ _ = true; simp <;> omega) | (show (_ : Bool) = _; simp_all; done) | (exfalso; omega) | refine aRegion_auto (by decide +kernel) ?_ | fail))
      refine ⟨i + 1, by show i + 1 ≤ m.length; omega, by show m.length - (i + 1) < m.length - i; omega, Ent.sub ?_ ?_⟩
      · rw [hnx, ← hM, hke]
      · (repeat' (first | exact trivial | exact rfl | refine And.intro ?_ ?_))
        refine congrArg (fun l : List Shp.Pc => AV.ref 1 0 l.length) (?_ : M = Shp.pcs m (i + 1))
        rw [hnx, ← hM, hke]
  · obtain rfl : i = m.length := by omega
    (repeat' (first | exact trivial | exact fun h => h | refine And.intro ?_ ?_ | (intro hb; try simp at hb) | omega | exact rfl | exact Nat.le_refl _ | (show _ + 1 ≤ 4294967296; omega) | (show _ + 1 ≤ 5864062014634; omega) | (dsimp only; omega) | (show (_ : Int) ≤ (_ : Int); omega) | (show _ < List.length _; simp only [List.length_set, List.length_append, List.length_take]; omega) | (show wantB _ _ = true; simp <;> omega) | (show (_ : Bool) = _; simp_all; done) | (exfalso; omega) | refine aRegion_auto (by decide +kernel) ?_ | fail))
    refine ⟨_, _, (REnt.conv1 (.dat (.list PcT)) _ rfl ?_).trans (REnt.drop ⟨rfl, rfl⟩), ?_⟩
    · (repeat' (first | exact trivial | refine And.intro ?_ ?_ | (show _ ≤ _; omega) | (show _ ≤ _; simp; done)))
    · refine (congrArg (fun l => K (.fz (.list PcT) l) []) (?_ : List.take (Shp.pcs m m.length).length (List.drop 0 (Shp.pcs m m.length)) = Shp.pcs m m.length)).mpr hK
      rw [List.drop_zero, List.take_length]
end Go.Proofs.YtcfalmdfohphoaaDoor
/-
  Places as the keys of a map.
-/
namespace Go.Proofs.YtcfalmdfohphoaaDoor
open Go Go.Ab Go.Maps
set_option maxRecDepth 100000
def kvS (p : Int × Int) : Value := .agg #[.int .i64 p.1, .int .i64 p.2]
theorem kvS_inj {p q : Int × Int} : kvS p = kvS q ↔ p = q := by
  obtain ⟨a, b⟩ := p
  obtain ⟨c, d⟩ := q
  simp [kvS]
theorem keyedS : Keyed Tryd.prog 46 := Keyed.of_law (Go.deep_law (m := 2) (by omega) (by kernel_rfl) (by kernel_rfl) (by kernel_rfl))
theorem wf64 {x : Int} (h : -9223372036854775808 ≤ x ∧ x ≤ 9223372036854775807) : (Lit.int .i64 x).wf = true := by
  simp [Lit.wf, IntKind.min, IntKind.max, IntKind.signed, IntKind.bits]; omega
theorem keyS_ok {p : Int × Int} (hx : -9223372036854775808 ≤ p.1 ∧ p.1 ≤ 9223372036854775807) (hy : -9223372036854775808 ≤ p.2 ∧ p.2 ≤ 9223372036854775807) : ∃ l, keyOf Tryd.prog 46 (kvS p) = some l := by
  have hkt : Tryd.prog.keyType 46 = true := by kernel_rfl
  have hf : (kvS p).formed Tryd.prog 46 = true := by unfold kvS Value.formed; rw [Tryd.underlying46]; kernel_rfl
  have hl : ∃ ls, Tryd.prog.keyLits (Tryd.prog.types.size + 1) 46 (kvS p).cells.toList = some ls := by
    have c2 : Tryd.prog.cellsOf 46 = 2 := by kernel_rfl
    have c1 : Tryd.prog.cellsOf 3 = 1 := by kernel_rfl
    obtain ⟨n, hn⟩ : ∃ n, Tryd.prog.types.size = n + 1 := ⟨_, rfl⟩
    have hi : ∀ x : Int, (Lit.int .i64 x).wf = true → Tryd.prog.keyLits (n + 1) 3 [.int .i64 x] = some [.int .i64 x] := fun x hx => by
      unfold Program.keyLits
      rw [Tryd.underlying3]
      show (if IntKind.i64 = IntKind.i64 ∧ (Lit.int .i64 x).wf = true then _ else _) = _
      rw [if_pos ⟨rfl, hx⟩]
    rw [hn]
    unfold Program.keyLits
    rw [Tryd.underlying46]
    refine ⟨[.int .i64 p.1, .int .i64 p.2], ?_⟩
    simp [kvS, Value.cells, c2, c1, hi _ (wf64 hx), hi _ (wf64 hy)]
  obtain ⟨ls, hl⟩ := hl
  refine ⟨.string (keyBytes ls), ?_⟩
  unfold keyOf
  rw [Tryd.underlying46]
  show (if (_ && _) = true then _ else _) = _
  rw [hkt, hf, hl]; rfl
end Go.Proofs.YtcfalmdfohphoaaDoor
/-
  A part of a row is set to noughts (builtin clear).
-/
namespace Go.Ab
open Go
section
variable {P : Program} {G : List (Nat × Value)} {A : List AO} {T : List (Nat × AV)} {Kk : AV → List AO → Prop}
theorem set_same {A : List AO} {tok : Nat} {o : AO} (h : A[tok]? = some o) : A.set tok o = A := by
  apply List.ext_getElem?
  intro m
  rw [List.getElem?_set]
  by_cases hm : tok = m
  · subst hm
    rw [if_pos rfl, if_pos (get_lt h), h]
  · rw [if_neg hm]
theorem aact_clear {D : Tab} (hD : TabOk P D) {t el : TypeId} {e : Ty} {x : Operand} {tok off len : Nat} {xs : List e.den} (hx : ev T x = .ref tok off len) (ho : A[tok]? = some (.row e xs)) (hle : off + len ≤ xs.length) (ht : telem D t = some el)
    (hb : elOk D el e = true) (h : Kk (.tup []) (A.set tok (.row e (xs.take off ++ List.replicate len e.dft ++ xs.drop (off + len))))) : AAct P G A T (.call { callee := .builtin .clear, args := #[x], argTypes := #[t] }) Kk := by
  refine ⟨?_⟩
  rintro c a ⟨dst, op, type, pos, after, guard⟩ H hA hG rfl hT
  have rx := hT x (by simp [Op.operands, Call.operands])
  rw [hx] at rx
  subst hA
  unfold Rel at rx
  rw [ho] at rx
  simp only at rx
  obtain ⟨i, z, j1, j2, j3, j4, j5, j6, _⟩ := elOk_of hD hb
  have hu := of_telem hD ht
  have obj := H.obj tok _ ho
  have rel0 : ∀ c' : Cx, Rel c' (.tup []) (.tuple #[]) := fun c' => by unfold Rel; exact ⟨[], rfl, by unfold RelL; rfl⟩
  have none : len = 0 → ∀ p cap, a.eval x = .slice p 0 cap → ∃ c' nx v r, (execOp a.eval ⟨dst, .call { callee := .builtin .clear, args := #[x], argTypes := #[t] }, type, pos, after, guard⟩).run P c.w = .ok nx c'.w ∧ (nx = .value v ∨ (nx = .skip ∧ v = undef)) ∧ Ext c c' ∧ HR c' ∧ Rel c' r v ∧ Kk r c'.A := by
    intro h0 p cap hv
    subst h0
    have hs : c.A.set tok (.row e (xs.take off ++ List.replicate 0 e.dft ++ xs.drop (off + 0))) = c.A := by
      rw [List.replicate_zero, List.append_nil, Nat.add_zero, List.take_append_drop]
      exact set_same ho
    rw [hs] at h
    refine ⟨c, .value (.tuple #[]), .tuple #[], .tup [], ?_, .inl rfl, Ext.refl c, H, rel0 c, h⟩
    cases p <;> simp [execOp, resolve, invoke, builtin, Builtin.clear_, run_underlying' hu, hv]
  rcases rx with ⟨b, cap, cs, et, ad, hr, hv, ha, hcap, hh, hsz⟩ | ⟨hr, h0, h1, p, hv⟩
  · rcases Nat.eq_zero_or_pos len with h0 | h0
    · exact none h0 _ _ (by rw [hv, h0])
    · have had := ha (by omega)
      subst had
      rw [hr] at obj
      rcases row_iff obj with ⟨h1, _⟩ | ⟨b', cs', et', L, R, h1, h2, h3, h4⟩
      · cases h1
      · cases h1
        rw [hh] at h2; cases h2
        have hz := zcells (I := c.I) (w := c.w) (z := z.cells) j6 j4 len
        obtain ⟨M, hM⟩ : ∃ M, ((Array.range (len * e.size)).map (z.cells[· % z.cells.size]!)).toList = M := ⟨_, rfl⟩
        rw [hM] at hz
        have hMl : M.length = len * e.size := by rw [hz.1]; simp
        have hzl : z.cells.size = e.size := by
          have := congrArg List.length j6
          rw [(dft_fz (fun _ => True) default e).len] at this
          simpa using this
        have hLl := h4.1
        have hoff : off * e.size + len * e.size ≤ L.length := by rw [hLl, ← Nat.add_mul]; exact Nat.mul_le_mul_right _ hle
        have hcl : L.length ≤ cs.size := by
          have := congrArg List.length h3
          rw [List.length_append, Array.length_toList] at this
          omega
        have hst := run_storeCells_at P b (off * e.size) et M 0 cs c.w hh (by omega) (fun u hu => ocell_oneCell (hz.ocell u hu))
        simp only [Nat.add_zero] at hst
        have hsize : (setRange cs.toList (off * e.size) M).toArray.size = cs.size := setRange_size (by omega)
        let o' : AO := .row e (xs.take off ++ List.replicate len e.dft ++ xs.drop (off + len))
        have E1 := ext_wr (o' := o') H ho rfl hr hh hsize
        have hpre : (setRange cs.toList (off * e.size) M) = (L.take (off * e.size) ++ M ++ L.drop ((off + len) * e.size)) ++ R := by
          unfold setRange
          rw [h3, List.take_append_of_le_length (by omega), hMl, List.drop_append_of_le_length (by omega), Nat.add_mul]
          simp [List.append_assoc]
        have hcell : Cells c.I c.w e (xs.take off ++ List.replicate len e.dft ++ xs.drop (off + len)) (L.take (off * e.size) ++ M ++ L.drop ((off + len) * e.size)) := ((h4.take off (by omega)).append hz).append (h4.drop (off + len))
        have H1 := hr_wr (o' := o') H ho rfl hr hh hsize (row_mk (setRow_heap c.w b _ _ et (0, 0) hh) hpre (hcell.ext E1))
        refine ⟨_, .value (.tuple #[]), .tuple #[], .tup [], ?_, .inl rfl, E1, H1, rel0 _, h⟩
        obtain ⟨n, rfl⟩ : ∃ n, len = n + 1 := ⟨len - 1, by omega⟩
        have hzc : (Builtin.zeroCells z.cells (n + 1)).toList = M := by
          rw [← hM]; unfold Builtin.zeroCells; rw [hzl]
        have hze : (zeroValue el).run P c.w = .ok z c.w := by simp [zeroValue, typeInfo, j1, j2]
        have hw : (c.wr tok b (setRange cs.toList (off * e.size) M).toArray o').w = c.w.setRow b (List.take (off * e.size) cs.toList ++ M ++ List.drop (off * e.size + M.length) cs.toList).toArray := rfl
        rw [hw]
        simp [execOp, resolve, invoke, builtin, Builtin.clear_, run_underlying' hu, hv, hze, hzc, hst]
  · exact none h1 _ _ (by rw [hv])
end
end Go.Ab
/-
  Maps by their keys: what a key's value is, whatever order the entries came in.
-/
namespace Mp
section
variable {α β : Type} [DecidableEq α]
/-- a key's value, or else d -/
def gv (S : List (Nat × α × β)) (k : α) (d : β) : β := match S.find? (fun e => decide (e.2.1 = k)) with
  | some e => e.2.2
  | none => d
structure MO (Gd : α → Prop) (clk : Nat) (S : List (Nat × α × β)) : Prop where
  born : ∀ e ∈ S, e.1 < clk
  st : (S.map (·.1)).Nodup
  nd : (S.map (·.2.1)).Nodup
  good : ∀ e ∈ S, Gd e.2.1
omit [DecidableEq α] in
theorem MO.nil {Gd : α → Prop} {clk : Nat} : MO Gd clk ([] : List (Nat × α × β)) := ⟨fun e h => (by cases h), List.nodup_nil, List.nodup_nil, fun e h => (by cases h)⟩
theorem gv_no {S : List (Nat × α × β)} {k : α} {d : β} (h : ∀ e ∈ S, e.2.1 ≠ k) : gv S k d = d := by
  unfold gv
  rw [List.find?_eq_none.2 (fun e he => by simpa using h e he)]
theorem gv_mem : ∀ {S : List (Nat × α × β)} {d : β}, (S.map (·.2.1)).Nodup → ∀ e ∈ S, gv S e.2.1 d = e.2.2
  | [], _, _, e, he => by cases he
  | x :: S, d, hn, e, he => by
    rw [List.map_cons, List.nodup_cons] at hn
    unfold gv
    rw [List.find?_cons]
    by_cases hx : x.2.1 = e.2.1
    · rcases List.mem_cons.1 he with h | h
      · subst h; simp
      · exact (hn.1 (List.mem_map.2 ⟨e, h, hx.symm⟩)).elim
    · rcases List.mem_cons.1 he with h | h
      · subst h; exact (hx rfl).elim
      · rw [decide_eq_false hx]
        exact gv_mem (d := d) hn.2 e h
theorem gv_snoc {S : List (Nat × α × β)} {k k' : α} {v d : β} {c : Nat} (h : ∀ e ∈ S, e.2.1 ≠ k) : gv (S ++ [(c, k, v)]) k' d = if k' = k then v else gv S k' d := by
  unfold gv
  rw [List.find?_append]
  by_cases hk : k' = k
  · subst hk
    rw [if_pos rfl, List.find?_eq_none.2 (fun e he => by simpa using h e he)]
    simp
  · rw [if_neg hk]
    cases hf : S.find? (fun e => decide (e.2.1 = k')) with
    | some e => rfl
    | none =>
      have : decide (k = k') = false := decide_eq_false (fun e => hk e.symm)
      simp [this]
omit [DecidableEq α] in
theorem MO.snoc {Gd : α → Prop} {clk : Nat} {S : List (Nat × α × β)} (h : MO Gd clk S) {k : α} {v : β} (hn : ∀ e ∈ S, e.2.1 ≠ k) (hg : Gd k) : MO Gd (clk + 1) (S ++ [(clk, k, v)]) := by
  refine ⟨fun e he => ?_, ?_, ?_, fun e he => ?_⟩
  · rcases List.mem_append.1 he with h1 | h1
    · have := h.born e h1; omega
    · simp at h1; subst h1; exact Nat.lt_succ_self _
  · rw [List.map_append, List.nodup_append]
    refine ⟨h.st, by simp, fun a ha c hc => ?_⟩
    simp at hc; subst hc
    obtain ⟨e, he, rfl⟩ := List.mem_map.1 ha
    have := h.born e he
    omega
  · rw [List.map_append, List.nodup_append]
    refine ⟨h.nd, by simp, fun a ha c hc => ?_⟩
    simp at hc; subst hc
    obtain ⟨e, he, rfl⟩ := List.mem_map.1 ha
    exact hn e he
  · rcases List.mem_append.1 he with h1 | h1
    · exact h.good e h1
    · simp at h1; subst h1; exact hg
omit [DecidableEq α] in
theorem set_keys {S : List (Nat × α × β)} {j : Nat} {e : Nat × α × β} (hj : S[j]? = some e) (v : β) {γ : Type} (f : Nat × α → γ) : (S.set j (e.1, e.2.1, v)).map (fun e => f (e.1, e.2.1)) = S.map fun e => f (e.1, e.2.1) := by
  apply List.ext_getElem?
  intro m
  simp only [List.getElem?_map, List.getElem?_set]
  by_cases hjm : j = m
  · subst hjm
    have hlt : j < S.length := by
      rcases Nat.lt_or_ge j S.length with h | h
      · exact h
      · rw [List.getElem?_eq_none h] at hj; cases hj
    rw [if_pos rfl, if_pos hlt, hj]; rfl
  · rw [if_neg hjm]
omit [DecidableEq α] in
theorem mem_set' {S : List (Nat × α × β)} {j : Nat} {e x : Nat × α × β} (hj : S[j]? = some e) {v : β} (hx : x ∈ S.set j (e.1, e.2.1, v)) : ∃ y ∈ S, y.1 = x.1 ∧ y.2.1 = x.2.1 := by
  rcases List.mem_or_eq_of_mem_set hx with h | h
  · exact ⟨x, h, rfl, rfl⟩
  · subst h; exact ⟨e, List.mem_of_getElem? hj, rfl, rfl⟩
omit [DecidableEq α] in
theorem MO.set {Gd : α → Prop} {clk : Nat} {S : List (Nat × α × β)} (h : MO Gd clk S) {j : Nat} {e : Nat × α × β} (hj : S[j]? = some e) (v : β) : MO Gd clk (S.set j (e.1, e.2.1, v)) := by
  refine ⟨fun x hx => ?_, ?_, ?_, fun x hx => ?_⟩
  · obtain ⟨y, h1, h2, _⟩ := mem_set' hj hx
    rw [← h2]; exact h.born y h1
  · have := set_keys hj v (fun p => p.1)
    rw [this]; exact h.st
  · have := set_keys hj v (fun p => p.2)
    rw [this]; exact h.nd
  · obtain ⟨y, h1, _, h2⟩ := mem_set' hj hx
    rw [← h2]; exact h.good y h1
theorem gv_set {Gd : α → Prop} {clk : Nat} {S : List (Nat × α × β)} (h : MO Gd clk S) {j : Nat} {e : Nat × α × β} (hj : S[j]? = some e) (v d : β) (k' : α) : gv (S.set j (e.1, e.2.1, v)) k' d = if k' = e.2.1 then v else gv S k' d := by
  have h2 := h.set hj v
  have hlt : j < S.length := by
    rcases Nat.lt_or_ge j S.length with c | c
    · exact c
    · rw [List.getElem?_eq_none c] at hj; cases hj
  by_cases hk : k' = e.2.1
  · rw [if_pos hk, hk]
    exact gv_mem h2.nd (e.1, e.2.1, v) (List.mem_iff_getElem?.2 ⟨j, by rw [List.getElem?_set, if_pos rfl, if_pos hlt]⟩)
  · rw [if_neg hk]
    by_cases hx : ∃ x ∈ S, x.2.1 = k'
    · obtain ⟨x, h3, rfl⟩ := hx
      obtain ⟨i, hi⟩ := List.mem_iff_getElem?.1 h3
      have hij : j ≠ i := fun c => by subst c; rw [hj] at hi; cases hi; exact hk rfl
      rw [gv_mem h.nd x h3]
      exact gv_mem h2.nd x (List.mem_iff_getElem?.2 ⟨i, by rw [List.getElem?_set, if_neg hij]; exact hi⟩)
    · have n1 : ∀ x ∈ S, x.2.1 ≠ k' := fun x h3 c => hx ⟨x, h3, c⟩
      rw [gv_no n1]
      refine gv_no fun x h3 => ?_
      obtain ⟨y, h4, _, h5⟩ := mem_set' hj h3
      rw [← h5]; exact n1 y h4
/-- an entry there is -/
theorem gv_ex {Gd : α → Prop} {clk : Nat} {S : List (Nat × α × β)} (_ : MO Gd clk S) {k : α} {d : β} (hne : gv S k d ≠ d) : ∃ e ∈ S, e.2.1 = k := Classical.byContradiction fun c => hne (gv_no fun e he h2 => c ⟨e, he, h2⟩)
/-- where a key's entry lies, or else behind all -/
def ix (S : List (Nat × α × β)) (k : α) : Nat := S.findIdx fun e => decide (e.2.1 = k)
theorem ix_lt {S : List (Nat × α × β)} {k : α} : ix S k < S.length ↔ ∃ e ∈ S, e.2.1 = k := by
  unfold ix
  rw [List.findIdx_lt_length]
  simp
theorem ix_le {S : List (Nat × α × β)} {k : α} : ix S k ≤ S.length := List.findIdx_le_length
theorem ix_key {S : List (Nat × α × β)} {k : α} (h : ix S k < S.length) : (S[ix S k]'h).2.1 = k := by
  have h' : S.findIdx (fun e => decide (e.2.1 = k)) < S.length := h
  have := List.findIdx_getElem (xs := S) (p := fun e => decide (e.2.1 = k)) (w := h')
  exact of_decide_eq_true this
theorem ix_is {Gd : α → Prop} {clk : Nat} {S : List (Nat × α × β)} (h : MO Gd clk S) {j : Nat} {e : Nat × α × β} (hj : S[j]? = some e) : ix S e.2.1 = j := by
  have hlt : j < S.length := by
    rcases Nat.lt_or_ge j S.length with c | c
    · exact c
    · rw [List.getElem?_eq_none c] at hj; cases hj
  have hx : ix S e.2.1 < S.length := ix_lt.2 ⟨e, List.mem_of_getElem? hj, rfl⟩
  have hk := ix_key hx
  have he : S[j] = e := by rw [List.getElem?_eq_getElem hlt] at hj; simpa using hj
  exact (List.getElem_inj (h₀ := by simpa using hx) (h₁ := by simpa using hlt) h.nd).1 (by simp [hk, he])
/-- its stamp, the clock, the entries when it is looked up or made, the entries when it is put -/
def tS (S : List (Nat × α × β)) (clk : Nat) (k : α) : Nat := if h : ix S k < S.length then (S[ix S k]'h).1 else clk
def cS (S : List (Nat × α × β)) (clk : Nat) (k : α) : Nat := if ix S k < S.length then clk else clk + 1
def uS (S : List (Nat × α × β)) (clk : Nat) (k : α) (d : β) : List (Nat × α × β) := if ix S k < S.length then S else S ++ [(clk, k, d)]
def pS (S : List (Nat × α × β)) (clk : Nat) (k : α) (v : β) : List (Nat × α × β) := if ix S k < S.length then S.set (ix S k) (tS S clk k, k, v) else S ++ [(clk, k, v)]
theorem ix_at {S : List (Nat × α × β)} {clk : Nat} {k : α} (h : ix S k < S.length) : ∃ w, S[ix S k]? = some (tS S clk k, k, w) := by
  refine ⟨(S[ix S k]'h).2.2, ?_⟩
  rw [List.getElem?_eq_getElem h]
  unfold tS
  rw [dif_pos h]
  have := ix_key h
  congr 1
  exact Prod.ext rfl (Prod.ext this rfl)
theorem ix_no {S : List (Nat × α × β)} {k : α} (h : ¬ ix S k < S.length) : ∀ e ∈ S, e.2.1 ≠ k := fun e he c => h (ix_lt.2 ⟨e, he, c⟩)
theorem MO.up {Gd : α → Prop} {clk : Nat} {S : List (Nat × α × β)} (h : MO Gd clk S) {k : α} (hk : Gd k) (d : β) : MO Gd (cS S clk k) (uS S clk k d) := by
  unfold cS uS
  by_cases c : ix S k < S.length
  · rw [if_pos c, if_pos c]; exact h
  · rw [if_neg c, if_neg c]; exact h.snoc (ix_no c) hk
theorem MO.put {Gd : α → Prop} {clk : Nat} {S : List (Nat × α × β)} (h : MO Gd clk S) {k : α} (hk : Gd k) (v : β) : MO Gd (cS S clk k) (pS S clk k v) := by
  unfold cS pS
  by_cases c : ix S k < S.length
  · rw [if_pos c, if_pos c]
    obtain ⟨w, hw⟩ := ix_at (clk := clk) c
    exact h.set hw v
  · rw [if_neg c, if_neg c]; exact h.snoc (ix_no c) hk
theorem gv_up {S : List (Nat × α × β)} {clk : Nat} {k k' : α} {d : β} : gv (uS S clk k d) k' d = gv S k' d := by
  unfold uS
  by_cases c : ix S k < S.length
  · rw [if_pos c]
  · rw [if_neg c, gv_snoc (ix_no c)]
    by_cases e : k' = k
    · rw [if_pos e, e, gv_no (ix_no c)]
    · rw [if_neg e]
theorem gv_put {Gd : α → Prop} {clk : Nat} {S : List (Nat × α × β)} (h : MO Gd clk S) {k k' : α} {v d : β} : gv (pS S clk k v) k' d = if k' = k then v else gv S k' d := by
  unfold pS
  by_cases c : ix S k < S.length
  · rw [if_pos c]
    obtain ⟨w, hw⟩ := ix_at (clk := clk) c
    exact gv_set h hw v d k'
  · rw [if_neg c]; exact gv_snoc (ix_no c)
theorem pS_len {S : List (Nat × α × β)} {clk : Nat} {k : α} {v : β} : (pS S clk k v).length ≤ S.length + 1 := by
  unfold pS
  split
  · rw [List.length_set]; omega
  · rw [List.length_append]; exact Nat.le_refl _
/-- what keys there are when one is put -/
theorem pS_key {S : List (Nat × α × β)} {clk : Nat} {k k' : α} {v : β} : (∃ e ∈ pS S clk k v, e.2.1 = k') ↔ k' = k ∨ ∃ e ∈ S, e.2.1 = k' := by
  have hm : ∀ (L : List (Nat × α × β)), (∃ e ∈ L, e.2.1 = k') ↔ k' ∈ L.map (·.2.1) := fun L => by simp
  rw [hm, hm]
  unfold pS
  by_cases c : ix S k < S.length
  · rw [if_pos c]
    obtain ⟨w, hw⟩ := ix_at (clk := clk) c
    rw [set_keys hw v (fun p => p.2)]
    constructor
    · exact .inr
    · rintro (h | h)
      · obtain ⟨e, he, hk⟩ := ix_lt.1 c
        rw [h]; exact List.mem_map.2 ⟨e, he, hk⟩
      · exact h
  · rw [if_neg c, List.map_append, List.mem_append]
    simp only [List.map_cons, List.map_nil, List.mem_cons, List.not_mem_nil, or_false]
    exact Or.comm
theorem uS_set {S : List (Nat × α × β)} {clk : Nat} {k : α} {v d : β} : (uS S clk k d).set (ix S k) (tS S clk k, k, v) = pS S clk k v := by
  unfold uS pS
  by_cases c : ix S k < S.length
  · rw [if_pos c, if_pos c]
  · rw [if_neg c, if_neg c]
    have e : ix S k = S.length := Nat.le_antisymm ix_le (Nat.le_of_not_lt c)
    rw [e, List.set_append_right _ _ (Nat.le_refl _), Nat.sub_self]
    unfold tS
    rw [dif_neg c]; rfl
theorem uS_at {S : List (Nat × α × β)} {clk : Nat} {k : α} {d : β} : ∃ w, (uS S clk k d)[ix S k]? = some (tS S clk k, k, w) := by
  unfold uS
  by_cases c : ix S k < S.length
  · rw [if_pos c]; exact ix_at c
  · rw [if_neg c]
    have e : ix S k = S.length := Nat.le_antisymm ix_le (Nat.le_of_not_lt c)
    refine ⟨d, ?_⟩
    rw [e, List.getElem?_append_right (Nat.le_refl _), Nat.sub_self]
    unfold tS
    rw [dif_neg c]; rfl
end
end Mp
namespace Go.Ab
open Go Go.Maps Mp
section
variable {α β : Type} [DecidableEq α] {P : Program} {G : List (Nat × Value)} {A : List AO} {T : List (Nat × AV)} {Kk : AV → List AO → Prop}
/-- a map as the state knows it -/
abbrev mpK (kv : α → Value) (va : β → AV) (bm clk : Nat) (S : List (Nat × α × β)) : AO := .mapo (.map bm clk (S.map fun e => (e.1, kv e.2.1))) (S.map fun e => va e.2.2)
omit [DecidableEq α] in
theorem mpK_ix {kv : α → Value} {S : List (Nat × α × β)} {j : Nat} {p : Nat × Value} (h : (S.map fun e => (e.1, kv e.2.1))[j]? = some p) : ∃ e, S[j]? = some e ∧ p = (e.1, kv e.2.1) := by
  rw [List.getElem?_map] at h
  cases hS : S[j]? with
  | none => rw [hS] at h; cases h
  | some e => rw [hS] at h; exact ⟨e, rfl, by simpa using h.symm⟩
omit [DecidableEq α] in
theorem mpK_keys {kv : α → Value} {kt : TypeId} {Gd : α → Prop} {clk : Nat} {S : List (Nat × α × β)} (h : MO Gd clk S) (ok : ∀ a, Gd a → ∃ l, keyOf P kt (kv a) = some l) : ∀ p ∈ S.map (fun e => (e.1, kv e.2.1)), ∃ l, keyOf P kt p.2 = some l := fun p hp => by
  obtain ⟨e, he, rfl⟩ := List.mem_map.1 hp
  exact ok _ (h.good e he)
omit [DecidableEq α] in
theorem mpK_set {kv : α → Value} {va : β → AV} {bm clk : Nat} {S : List (Nat × α × β)} {j : Nat} {e : Nat × α × β} (hj : S[j]? = some e) (v : β) :
    AO.mapo (.map bm clk (S.map fun e => (e.1, kv e.2.1))) ((S.map fun e => va e.2.2).set j (va v)) = mpK kv va bm clk (S.set j (e.1, e.2.1, v)) := by
  unfold mpK
  rw [set_keys hj v (fun p => (p.1, kv p.2)), List.map_set]
omit [DecidableEq α] in
theorem mpK_snoc {kv : α → Value} {va : β → AV} {bm clk : Nat} {S : List (Nat × α × β)} (k : α) (v : β) :
    AO.mapo (.map bm (clk + 1) ((S.map fun e => (e.1, kv e.2.1)) ++ [(clk, kv k)])) ((S.map fun e => va e.2.2) ++ [va v]) = mpK kv va bm (clk + 1) (S ++ [(clk, k, v)]) := by
  unfold mpK
  rw [List.map_append, List.map_append]; rfl
theorem aact_lookG {kv : α → Value} {va : β → AV} {Gd : α → Prop} {t kt et : TypeId} {x k : Operand} {tok off bm clk : Nat} {S : List (Nat × α × β)} {d : β} (a : α)
    (hx : ev T x = .ptr tok off) (ho : A[tok]? = some (mpK kv va bm clk S)) (hM : MO Gd clk S) (ht : P.underlying t = some (.map kt et)) (K : Keyed P kt) (inj : ∀ a b, kv a = kv b → a = b)
    (ok : ∀ a, Gd a → ∃ l, keyOf P kt (kv a) = some l) (hk : ∀ c v, Rel c (ev T k) v → v = kv a) (ha : Gd a)
    (hz : ∀ c : Cx, ∃ zv, (zeroValue et).run P c.w = .ok zv c.w ∧ Rel c (va d) zv) (h : Kk (va (gv S a d)) A) : AAct P G A T (.lookup t x k false) Kk := by
  refine aact_lookup hx ho ht K hk (ok a ha) (mpK_keys hM ok) hz (fun hno => ?_) (fun j p av hj hp hav => ?_)
  · rw [gv_no fun e he c => hno _ (List.mem_map.2 ⟨e, he, rfl⟩) (by rw [c])] at h
    exact h
  · obtain ⟨e, he, rfl⟩ := mpK_ix hj
    have hav : av = va e.2.2 := by
      rw [List.getElem?_map, he] at hav
      simpa using hav.symm
    have hea : e.2.1 = a := inj _ _ hp
    have := gv_mem (d := d) hM.nd e (List.mem_of_getElem? he)
    rw [hea] at this
    rw [this] at h
    rw [hav]; exact h
theorem aact_putG {kv : α → Value} {va : β → AV} {Gd : α → Prop} {t kt et : TypeId} {x k y : Operand} {tok off bm clk : Nat} {S : List (Nat × α × β)} (a : α) (v : β)
    (hx : ev T x = .ptr tok off) (ho : A[tok]? = some (mpK kv va bm clk S)) (hM : MO Gd clk S) (ht : P.underlying t = some (.map kt et)) (K : Keyed P kt) (inj : ∀ a b, kv a = kv b → a = b)
    (ok : ∀ a, Gd a → ∃ l, keyOf P kt (kv a) = some l) (hk : ∀ c v, Rel c (ev T k) v → v = kv a) (ha : Gd a) (hy : ev T y = va v)
    (h : Kk .unk (A.set tok (mpK kv va bm (cS S clk a) (pS S clk a v)))) : AAct P G A T (.mapUpdate t x k y) Kk := by
  unfold cS pS at h
  refine aact_store hx ho ht K hk (ok a ha) (mpK_keys hM ok) (fun hno => ?_) (fun j p hj hp => ?_)
  · have hn : ¬ ix S a < S.length := fun c => by
      obtain ⟨e, he, c⟩ := ix_lt.1 c
      exact hno _ (List.mem_map.2 ⟨e, he, rfl⟩) (by rw [c])
    rw [if_neg hn, if_neg hn] at h
    rw [hy, mpK_snoc]
    exact h
  · obtain ⟨e, he, rfl⟩ := mpK_ix hj
    have hea : e.2.1 = a := inj _ _ hp
    have hij : ix S a = j := by rw [← hea]; exact ix_is hM he
    have hlt : ix S a < S.length := by rw [hij]; exact get_lt he
    obtain ⟨w, hw⟩ := ix_at (clk := clk) hlt
    rw [hij, he] at hw
    have hw1 : e.1 = tS S clk a := by simpa using congrArg Prod.fst (Option.some.inj hw)
    rw [if_pos hlt, if_pos hlt, hij, ← hw1, ← hea] at h
    rw [hy, mpK_set he]
    exact h
theorem aact_upG {kv : α → Value} {va : β → AV} {Gd : α → Prop} {t kt et : TypeId} {x k : Operand} {tok off bm clk : Nat} {S : List (Nat × α × β)} {d : β} (a : α)
    (hx : ev T x = .ptr tok off) (ho : A[tok]? = some (mpK kv va bm clk S)) (hM : MO Gd clk S) (ht : P.underlying t = some (.map kt et)) (K : Keyed P kt) (inj : ∀ a b, kv a = kv b → a = b)
    (ok : ∀ a, Gd a → ∃ l, keyOf P kt (kv a) = some l) (hk : ∀ c v, Rel c (ev T k) v → v = kv a) (ha : Gd a)
    (hz : ∀ c : Cx, ∃ zv, (zeroValue et).run P c.w = .ok zv c.w ∧ Rel c (va d) zv)
    (h : Kk (.tup [va (gv S a d), .fz (.int .i64) (tS S clk a : Int)]) (A.set tok (mpK kv va bm (cS S clk a) (uS S clk a d)))) : AAct P G A T (.mapEntry t x k) Kk := by
  unfold cS uS at h
  refine aact_upsert hx ho ht K hk (ok a ha) (mpK_keys hM ok) hz (fun hno => ?_) (fun j p av hj hp hav => ?_)
  · have hn : ¬ ix S a < S.length := fun c => by
      obtain ⟨e, he, c⟩ := ix_lt.1 c
      exact hno _ (List.mem_map.2 ⟨e, he, rfl⟩) (by rw [c])
    have ht : tS S clk a = clk := by unfold tS; rw [dif_neg hn]
    rw [if_neg hn, if_neg hn, ht, gv_no (ix_no hn)] at h
    rw [mpK_snoc]
    exact h
  · obtain ⟨e, he, rfl⟩ := mpK_ix hj
    have hea : e.2.1 = a := inj _ _ hp
    have hg := gv_mem (d := d) hM.nd e (List.mem_of_getElem? he)
    rw [hea] at hg
    have hav : av = va e.2.2 := by
      rw [List.getElem?_map, he] at hav
      simpa using hav.symm
    have hij : ix S a = j := by rw [← hea]; exact ix_is hM he
    have hlt : ix S a < S.length := by rw [hij]; exact get_lt he
    obtain ⟨w, hw⟩ := ix_at (clk := clk) hlt
    rw [hij, he] at hw
    have hw1 : e.1 = tS S clk a := by simpa using congrArg Prod.fst (Option.some.inj hw)
    rw [if_pos hlt, if_pos hlt, ← hw1, hg, set_same ho] at h
    rw [hav]; exact h
theorem aact_setG {kv : α → Value} {va : β → AV} {Gd : α → Prop} {t : TypeId} {x s y : Operand} {tok off bm clk : Nat} {S : List (Nat × α × β)} {a : α} {d : β} (v : β)
    (hx : ev T x = .ptr tok off) (ho : A[tok]? = some (mpK kv va bm (cS S clk a) (uS S clk a d))) (hM : MO Gd clk S) (ha : Gd a) (hs : ∀ c v, Rel c (ev T s) v → v = .int .i64 (tS S clk a : Int)) (hy : ev T y = va v)
    (h : Kk .unk (A.set tok (mpK kv va bm (cS S clk a) (pS S clk a v)))) : AAct P G A T (.entryStore t x s y) Kk := by
  obtain ⟨w, hw⟩ := uS_at (S := S) (clk := clk) (k := a) (d := d)
  refine aact_put (j := ix S a) (p := (tS S clk a, kv a)) hx ho hs ?_ ?_ rfl ?_
  · rw [List.map_map]
    exact (hM.up ha d).st
  · rw [List.getElem?_map, hw]; rfl
  · rw [hy, mpK_set (e := (tS S clk a, a, w)) hw, uS_set]
    exact h
omit [DecidableEq α] in
theorem mpK_ok {kv : α → Value} {t : Ty} {g : β → t.den} {bm clk n : Nat} : ∀ {S : List (Nat × α × β)}, okLB n (mpK kv (fun v => .fz t (g v)) bm clk S).vals = true := fun {S} => by
  show okLB n (S.map fun e => AV.fz t (g e.2.2)) = true
  induction S with
  | nil => rfl
  | cons e S ih => rw [List.map_cons]; unfold okLB; rw [ih]; rfl
omit [DecidableEq α] in
theorem mpK_same {kv : α → Value} {t : Ty} {g : β → t.den} {bm clk : Nat} (f : Nat → Nat) {S : List (Nat × α × β)} : mapO f (mpK kv (fun v => .fz t (g v)) bm clk S) = mpK kv (fun v => .fz t (g v)) bm clk S := by
  show AO.mapo _ (mapL f (S.map fun e => AV.fz t (g e.2.2))) = AO.mapo _ (S.map fun e => AV.fz t (g e.2.2))
  refine congrArg _ ?_
  induction S with
  | nil => rfl
  | cons e S ih => rw [List.map_cons]; unfold mapL; rw [ih]; rfl
end
end Go.Ab
