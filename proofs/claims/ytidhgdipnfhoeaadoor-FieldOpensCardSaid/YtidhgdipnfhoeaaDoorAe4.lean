/-
  What a claim hands over, read as data of a type.
-/
import Derived.Test.YtidhgdipnfhoeaaDoorAe3
import Derived.ChangeShapes
import Derived.WideShapes
import Derived.Deep.Slices
import Derived.Below
namespace Go.Ab
open Go Go.RowKit
def opB (D : Tab) : Nat → TypeId → Ty → Bool
  | 0, _, _ => false
  | n + 1, t, ty => Nat.beq (tsz D t) ty.size && Nat.blt 0 ty.size && match ty with
    | .int k => decide (tkind D t = some k)
    | .bool => tbool D t
    | .str => tstr D t
    | .list e => match telem D t with
      | some e' => opB D n e' e
      | none => false
    | .one a => match tlook D t with
      | some ⟨_, .struct [(o, t0)], _, _, _⟩ => Nat.beq o 0 && opB D n t0 a
      | _ => false
    | .pair a b => match tlook D t with
      | some ⟨_, .struct fs, _, _, _⟩ => opFs fs (.pair a b) 0 (opB D n)
      | _ => false
    | _ => false
where
  opFs : List (Nat × TypeId) → Ty → Nat → (TypeId → Ty → Bool) → Bool
    | [(o, t)], ty, k, p => Nat.beq o k && p t ty
    | (o, t) :: y :: fs, .pair a b, k, p => Nat.beq o k && p t a && opFs (y :: fs) b (k + a.size) p
    | _, _, _, _ => false
/-- what numbers of a kind, what lengths there are -/
def Ty.inB : (t : Ty) → t.den → Prop
  | .int k, x => k.min ≤ x ∧ x ≤ k.max
  | .str, x => x.size ≤ maxLen
  | .one a, x => a.inB x
  | .pair a b, x => a.inB x.1 ∧ b.inB x.2
  | .list e, x => List.length x ≤ maxLen ∧ ∀ i (h : i < List.length x), e.inB x[i]
  | _, _ => True
section
variable {H : Type} {enc : TypeId × Value → H} {P : Program} {w : World} {base : Nat} {spare : Nat → Bool} {held : Bool}
theorem cellsOf_tsz {D : Tab} (hD : TabOk P D) {t : TypeId} {n : Nat} (h : tsz D t = n) (hn : 0 < n) : P.cellsOf t = n := by
  unfold tsz at h
  cases hi : tlook D t with
  | none => rw [hi] at h; simp at h; omega
  | some e =>
    rw [hi] at h
    obtain ⟨i, d, h1, _, h3, _⟩ := tlook_info hD hi
    unfold Program.cellsOf
    rw [h1]
    simp only [Option.map_some, Option.getD_some]
    rw [h3]; exact h
theorem opB_size {D : Tab} (hD : TabOk P D) {n : Nat} {t : TypeId} {ty : Ty} (h : opB D n t ty = true) : P.cellsOf t = ty.size ∧ 0 < ty.size := by
  cases n with
  | zero => cases h
  | succ n =>
    unfold opB at h
    simp only [Bool.and_eq_true] at h
    have h2 := blt_of h.1.2
    exact ⟨cellsOf_tsz hD (beq_eq h.1.1) h2, h2⟩
theorem of_tstruct {D : Tab} (hD : TabOk P D) {t : TypeId} {sz bt : Nat} {l : List (Nat × Nat)} {z : List Z} {b : Bool} (h : tlook D t = some ⟨sz, .struct l, z, b, bt⟩) : ∃ fs : Array Field, P.underlying t = some (.struct fs) ∧ fs.toList.map (fun f => (f.offset, f.type)) = l := by
  obtain ⟨i, d, _, h2, _, h4, _⟩ := tlook_info hD h
  cases d <;> try (cases h4; done)
  rename_i fs
  simp only [tiIs, decide_eq_true_eq] at h4
  exact ⟨fs, h2, h4⟩
/-- the fields from one on -/
theorem open_fs {D : Tab} {n : Nat} {fuel : Nat} {cs : List Value} (ih : ∀ t ty, opB D n t ty = true → ∀ cs x, DataW.trod enc P w base spare held fuel t cs = some x → ∃ y : ty.den, FzC (fun _ => True) w ty y cs ∧ ty.inB y)
    (hsz : ∀ t ty, opB D n t ty = true → P.cellsOf t = ty.size) : ∀ (fs : List (Nat × TypeId)) (ty : Ty) (k : Nat), opB.opFs fs ty k (opB D n) = true → k + ty.size = cs.length →
    (∀ p ∈ fs, ∃ x, DataW.trod enc P w base spare held fuel p.2 ((cs.drop p.1).take (P.cellsOf p.2)) = some x) → ∃ y : ty.den, FzC (fun _ => True) w ty y (cs.drop k) ∧ ty.inB y
  | [], ty, k, h, _, _ => by unfold opB.opFs at h; cases h
  | [(o, t)], ty, k, h, hk, hall => by
    unfold opB.opFs at h
    simp only [Bool.and_eq_true] at h
    have ho := beq_eq h.1
    subst ho
    obtain ⟨x, hx⟩ := hall (o, t) (by simp)
    simp only at hx
    rw [hsz t ty h.2] at hx
    have hl : (cs.drop o).length = ty.size := by simp; omega
    rw [List.take_of_length_le (by omega)] at hx
    exact ih t ty h.2 _ x hx
  | (o, t) :: y :: fs, ty, k, h, hk, hall => by
    cases ty <;> try (unfold opB.opFs at h; cases h; done)
    rename_i a b
    unfold opB.opFs at h
    simp only [Bool.and_eq_true] at h
    obtain ⟨⟨ho, ha⟩, hr⟩ := h
    have ho := beq_eq ho
    subst ho
    obtain ⟨x, hx⟩ := hall (o, t) (by simp)
    simp only at hx
    rw [hsz t a ha] at hx
    obtain ⟨u, hu, hub⟩ := ih t a ha _ x hx
    have hk' : o + (a.size + b.size) = cs.length := hk
    obtain ⟨v, hv, hvb⟩ := open_fs ih hsz (y :: fs) b (o + a.size) hr (by omega) (fun p hp => hall p (List.mem_cons_of_mem _ hp))
    refine ⟨(u, v), ⟨(cs.drop o).take a.size, cs.drop (o + a.size), ?_, hu, hv⟩, hub, hvb⟩
    rw [← List.drop_drop, List.take_append_drop]
theorem open_ty {D : Tab} (hD : TabOk P D) : ∀ (n : Nat) (t : TypeId) (ty : Ty), opB D n t ty = true → ∀ fuel cs x, DataW.trod enc P w base spare held fuel t cs = some x → ∃ y : ty.den, FzC (fun _ => True) w ty y cs ∧ ty.inB y
  | 0, _, _, h => by cases h
  | n + 1, t, ty, h => by
    intro fuel cs x hx
    have hS := opB_size hD h
    unfold opB at h
    simp only [Bool.and_eq_true] at h
    obtain ⟨_, h⟩ := h
    have fields : ∀ (sz bt : Nat) (l : List (Nat × Nat)) (z : List Z) (b : Bool), tlook D t = some ⟨sz, .struct l, z, b, bt⟩ → ∃ m, fuel = m + 1 ∧ cs.length = ty.size ∧ ∀ p ∈ l, ∃ x, DataW.trod enc P w base spare held m p.2 ((cs.drop p.1).take (P.cellsOf p.2)) = some x := by
      intro sz bt l z b hl
      obtain ⟨fs, h1, h2⟩ := of_tstruct hD hl
      obtain ⟨xs, m, hm, _, hlen, hxs, hf⟩ := DataW.trod_struct h1 hx
      refine ⟨m, hm, hlen.trans hS.1, fun p hp => ?_⟩
      rw [← h2] at hp
      obtain ⟨f, hf1, rfl⟩ := List.mem_map.1 hp
      obtain ⟨i, hi, rfl⟩ := List.getElem_of_mem hf1
      have hi' : i < fs.size := by simpa using hi
      have := hf i fs.toList[i] (by simp [Array.getElem?_eq_getElem hi'])
      rw [List.getElem?_eq_getElem (by omega)] at this
      exact ⟨_, this⟩
    cases ty with
    | int k =>
      simp only [decide_eq_true_eq] at h
      obtain ⟨m, rfl, _, hw⟩ := DataW.trod_int (of_tkind hD h) hx
      unfold Lit.wf at hw
      simp only [Bool.and_eq_true, decide_eq_true_eq] at hw
      exact ⟨m, rfl, hw⟩
    | bool =>
      obtain ⟨b, rfl, _⟩ := DataW.trod_bool (of_tbool hD h) hx
      exact ⟨b, rfl, trivial⟩
    | str =>
      obtain ⟨s, rfl, _, hs⟩ := DataW.trod_string (of_tstr hD h) hx
      exact ⟨s, rfl, hs⟩
    | flt k => cases h
    | raw => cases h
    | arr m e => cases h
    | one a =>
      simp only at h
      split at h
      · rename_i sz o t0 z b bt hl
        simp only [Bool.and_eq_true] at h
        have ho := beq_eq h.1
        subst ho
        obtain ⟨m, hm, hlen, hall⟩ := fields _ _ _ _ _ hl
        obtain ⟨x', hx'⟩ := hall (0, t0) (by simp)
        simp only [List.drop_zero] at hx'
        rw [(opB_size hD h.2).1, List.take_of_length_le (by rw [hlen]; exact Nat.le_refl _)] at hx'
        obtain ⟨y, h1, h2⟩ := open_ty hD n t0 a h.2 m cs x' hx'
        exact ⟨y, h1, h2⟩
      · cases h
    | pair a b =>
      simp only at h
      split at h
      · rename_i sz fs z bb bt hl
        obtain ⟨m, hm, hlen, hall⟩ := fields _ _ _ _ _ hl
        have := open_fs (cs := cs) (fun t ty ht cs x hx => open_ty hD n t ty ht m cs x hx) (fun t ty ht => (opB_size hD ht).1) fs (.pair a b) 0 h (by rw [hlen]; omega) hall
        simpa using this
      · cases h
    | list e =>
      simp only at h
      cases he : telem D t with
      | none => rw [he] at h; cases h
      | some e' =>
        rw [he] at h
        simp only at h
        obtain ⟨hs, hs0⟩ := opB_size hD h
        rcases Deep.open_slice (of_telem hD he) hx with ⟨rfl, _⟩ | ⟨a, len, cap, m, n', Df, Pl, rfl, hb, hle, hcap, hm, _, hall⟩
        · exact ⟨[], ⟨none, 0, rfl, Nat.le_refl _, fun i hi => absurd hi (Nat.not_lt_zero _)⟩, Nat.zero_le _, fun i hi => absurd hi (Nat.not_lt_zero _)⟩
        · have hmle : len ≤ m := by rw [hm]; split <;> omega
          have key : ∀ i, i < len → ∃ y : e.den, e.inB y ∧ ∃ cs', FzC (fun _ => True) w e y cs' ∧ ∀ j (hj : j < cs'.length), w.cell? ⟨a.block, a.off + i * e.size + j, none⟩ = some cs'[j] := by
            intro i hi
            obtain ⟨cs', h1, h2⟩ := hall i (by omega)
            obtain ⟨y, hy, hyb⟩ := open_ty hD n e' e h n' cs' _ h2
            refine ⟨y, hyb, cs', hy, fun j hj => ?_⟩
            obtain ⟨_, hl, hc⟩ := World.cells?_some h1
            rw [hs] at hl hc
            have h0 := hc 0 hs0
            have hz : 0 < cs'.length := by omega
            have := hc j (by omega)
            rw [List.getElem?_eq_getElem hj] at this
            have hsp := World.cell?_spot this
            unfold Addr.add at this hsp
            obtain ⟨ab, ao, asp⟩ := a
            by_cases hi0 : i * e.size = 0
            · rw [if_pos hi0] at this hsp
              by_cases hj0 : j = 0
              · subst hj0
                simp only [if_true] at this hsp
                subst hsp
                rw [hi0]; exact this
              · rw [if_neg hj0] at this
                simp only at this ⊢
                rw [hi0]; exact this
            · rw [if_neg hi0] at this hsp
              by_cases hj0 : j = 0
              · subst hj0
                simp only [if_true] at this
                exact this
              · rw [if_neg hj0] at this
                exact this
          letI : Inhabited e.den := ⟨e.dft⟩
          obtain ⟨f, hf⟩ := Deep.choose_lt key
          refine ⟨(List.range len).map f, ⟨some a, cap, by simp, by simpa using hle, fun i hi => ?_⟩, by simp; omega, fun i hi => ?_⟩
          · have hi' : i < len := by simpa using hi
            obtain ⟨_, cs', h1, h2⟩ := hf i hi'
            have hpos : 0 < cs'.length := by rw [h1.len]; exact hs0
            have hcell := h2 0 hpos
            refine ⟨a.block, a.off, cs', ?_, trivial, World.block_lt_of_cell? w ⟨a.block, _, none⟩ hcell, by simpa using h1, h2⟩
            obtain ⟨c0, e0, _⟩ := hall 0 (by omega)
            obtain ⟨_, hl0, hc0⟩ := World.cells?_some e0
            rw [hs] at hl0 hc0
            have := hc0 0 hs0
            rw [List.getElem?_eq_getElem (by omega)] at this
            have hsp := World.cell?_spot this
            rw [Nat.zero_mul] at hsp
            simp only [Addr.add, if_true] at hsp
            obtain ⟨ab, ao, asp⟩ := a
            simp only at hsp; subst hsp; rfl
          · simp
            exact (hf i (by simpa using hi)).1
theorem opB_agg {D : Tab} (hD : TabOk P D) {n : Nat} {t : TypeId} {ty : Ty} (h : opB D n t ty = true) : (ty.isAgg = true ∧ ∃ fs, P.underlying t = some (.struct fs)) ∨
    (ty.isAgg = false ∧ ((∃ k, P.underlying t = some (.int k)) ∨ P.underlying t = some .bool ∨ P.underlying t = some .string ∨ ∃ e, P.underlying t = some (.slice e))) := by
  cases n with
  | zero => cases h
  | succ n =>
    unfold opB at h
    simp only [Bool.and_eq_true] at h
    obtain ⟨_, h⟩ := h
    cases ty with
    | int k => exact .inr ⟨rfl, .inl ⟨k, of_tkind hD (by simpa using h)⟩⟩
    | bool => exact .inr ⟨rfl, .inr (.inl (of_tbool hD h))⟩
    | str => exact .inr ⟨rfl, .inr (.inr (.inl (of_tstr hD h)))⟩
    | flt k => cases h
    | raw => cases h
    | arr m e => cases h
    | list e =>
      simp only at h
      cases he : telem D t with
      | none => rw [he] at h; cases h
      | some e' => exact .inr ⟨rfl, .inr (.inr (.inr ⟨e', of_telem hD he⟩))⟩
    | one a =>
      simp only at h
      split at h
      · rename_i hl; obtain ⟨fs, h1, _⟩ := of_tstruct hD hl; exact .inl ⟨rfl, fs, h1⟩
      · cases h
    | pair a b =>
      simp only at h
      split at h
      · rename_i hl; obtain ⟨fs, h1, _⟩ := of_tstruct hD hl; exact .inl ⟨rfl, fs, h1⟩
      · cases h
/-- the state ahead of a law: nothing is its own -/
def Cx.start (G : List (Nat × Value)) (w : World) : Cx := ⟨fun _ => none, [], fun _ => False, w, G⟩
theorem start_I {G : List (Nat × Value)} {w : World} (b : Nat) : (Cx.start G w).I b := ⟨fun h => h, fun t h => by obtain ⟨o, h1, _⟩ := h; simp [Cx.start] at h1⟩
theorem start_fz {G : List (Nat × Value)} {w : World} {t : Ty} {x : t.den} {cs : List Value} (h : FzC (fun _ => True) w t x cs) : FzC (Cx.start G w).I (Cx.start G w).w t x cs := h.mono fun b _ _ => ⟨start_I b, rfl⟩
theorem open_val {D : Tab} (hD : TabOk P D) {n : Nat} {t : TypeId} {ty : Ty} (hop : opB D n t ty = true) {r : Reach} {b0 : Nat} {v : Value} {d : DataW H} {ps : List MemPlace} (G : List (Nat × Value)) (hv : Value.okWide P w r b0 t v)
    (hd : DataW.Trod enc P w base spare held t v d ps) : ∃ y : ty.den, Rel (Cx.start G w) (.fz ty y) v ∧ ty.inB y := by
  obtain ⟨fuel, hf⟩ := hd
  obtain ⟨y, h1, h2⟩ := open_ty hD n t ty hop fuel _ _ hf
  refine ⟨y, ?_, h2⟩
  have hr := rel_fz_mk (start_fz (G := G) h1)
  have : valOf ty v.cells.toList = v := by
    unfold valOf
    rcases opB_agg hD hop with ⟨ha, fs, hs⟩ | ⟨ha, hs⟩
    · obtain ⟨cs, rfl, _⟩ := WideShapes.okWide_struct hs hv
      rw [if_pos ha]; simp [Value.cells]
    · rw [if_neg (by simp [ha])]
      rcases hs with ⟨k, hs⟩ | hs | hs | ⟨e, hs⟩
      · obtain ⟨m, rfl⟩ := WideShapes.okWide_int hs hv; rfl
      · obtain ⟨m, rfl⟩ := WideShapes.okWide_bool hs hv; rfl
      · obtain ⟨m, rfl⟩ := WideShapes.okWide_string hs hv; rfl
      · obtain ⟨a, len, cap, rfl⟩ := WideShapes.okWide_slice hs hv; rfl
  rw [← this]; exact hr
def tptrTo (D : Tab) (t : TypeId) : Option TypeId := match tlook D t with
  | some i => match i.d with
    | .ptr e => some e
    | _ => none
  | none => none
theorem of_tptrTo {D : Tab} (hD : TabOk P D) {t e : TypeId} (h : tptrTo D t = some e) : P.underlying t = some (.pointer e) := by
  unfold tptrTo at h
  cases hi : tlook D t with
  | none => rw [hi] at h; cases h
  | some x =>
    rw [hi] at h
    obtain ⟨i, d, _, h2, _, h4, _⟩ := tlook_info hD hi
    simp only at h
    cases hd : x.d <;> rw [hd] at h h4 <;> try (cases h; done)
    cases d <;> try (cases h4; done)
    cases h
    rw [h2, beq_eq h4]
theorem open_ptr {D : Tab} (hD : TabOk P D) {n : Nat} {t e : TypeId} {ty : Ty} (hp : tptrTo D t = some e) (hop : opB D n e ty = true) {r : Reach} {b0 : Nat} {v : Value} {d : DataW H} {ps : List MemPlace} (G : List (Nat × Value)) (hv : Value.okWide P w r b0 t v)
    (hd : DataW.Trod enc P w base spare held t v d ps) : v = .pointer none ∨ ∃ y : ty.den, Rel (Cx.start G w) (.fptr ty y) v ∧ ty.inB y := by
  obtain ⟨fuel, hf⟩ := hd
  have hu := of_tptrTo hD hp
  obtain ⟨a0, rfl⟩ := WideShapes.okWide_pointer hu hv
  rcases DataW.trod_pointer hu hf with ⟨h1, _⟩ | ⟨a, cs', y, m, _, h1, _, h2, h3⟩
  · simp [Value.cells] at h1; subst h1; exact .inl rfl
  · simp [Value.cells] at h1; subst h1
    obtain ⟨y', k1, k2⟩ := open_ty hD n e ty hop m _ _ h3
    obtain ⟨hs, hs0⟩ := opB_size hD hop
    obtain ⟨_, hl, hc⟩ := World.cells?_some h2
    rw [hs] at hl hc
    have h0 := hc 0 hs0
    rw [List.getElem?_eq_getElem (by omega)] at h0
    have hsp := World.cell?_spot h0
    simp only [Addr.add, if_true] at h0 hsp
    obtain ⟨ab, ao, asp⟩ := a
    simp only at hsp; subst hsp
    refine .inr ⟨y', ?_, k2⟩
    unfold Rel
    refine ⟨ab, ao, cs', rfl, start_I ab, World.block_lt_of_cell? w _ h0, start_fz k1, fun j hj => ?_⟩
    have := hc j (by omega)
    rw [List.getElem?_eq_getElem hj] at this
    unfold Addr.add at this
    by_cases hj0 : j = 0
    · subst hj0; rw [if_pos rfl] at this; exact this
    · rw [if_neg hj0] at this; exact this
end
/-- what a known variable must be ahead of a law -/
def Glo0 (w : World) (g : Nat) (v : Value) : Prop := w.cell? ⟨g, 0, none⟩ = some v ∧ ocell v = true ∧ ∀ T a, v = .iface T (.pointer (some a)) → ∃ cs et, w.heap[a.block]? = some (.cells cs et (0, 0))
/-- a contract, run ahead of which nothing is one's own -/
theorem acall_start {P : Program} {G : List (Nat × Value)} {f : FuncId} {args : List AV} {K : AV → List AO → Prop} {w : World} {vs : List Value} (hc : ACall P G f args [] K)
    (hg : ∀ g v, gk G g = some v → Glo0 w g v) (hv : RelL (Cx.start G w) args vs) :
    Calls P f vs.toArray w fun e w' => ∃ v c' r, e = .returned v ∧ c'.w = w' ∧ Below w.heap.size w w' ∧ Rel c' r v ∧ K r c'.A := by
  have H : HR (Cx.start G w) := ⟨fun t b h => by obtain ⟨o, h1, _⟩ := h; simp [Cx.start] at h1, fun t u b h => by obtain ⟨o, h1, _⟩ := h; simp [Cx.start] at h1,
    fun t o h => by simp [Cx.start] at h, fun b h => h.elim, fun g v h => ⟨start_I g, (hg g v h).1, (hg g v h).2.1, fun T a e => ⟨start_I _, (hg g v h).2.2 T a e⟩⟩⟩
  refine (hc.run (Cx.start G w) H rfl rfl vs hv).mono fun e w' ⟨v, c', r, h1, h2, h3, h4, h5, h6⟩ => ⟨v, c', r, h1, h2, ?_, h5, h6⟩
  subst h2
  have hb : ∀ k, k < w.heap.size → c'.w.heap[k]? = w.heap[k]? := fun k hk => (h3.le.I k (start_I k) hk).2
  refine ⟨h3.st.os, h3.st.tape, h3.st.output, ?_, hb⟩
  rcases Nat.lt_or_ge c'.w.heap.size w.heap.size with hlt | hge
  · have := hb c'.w.heap.size hlt
    rw [Array.getElem?_eq_none (Nat.le_refl _), Array.getElem?_eq_getElem hlt] at this
    cases this
  · exact hge
/-- .. of a law that answers true -/
theorem acall_true {P : Program} {G : List (Nat × Value)} {f : FuncId} {args : List AV} {w : World} {vs : List Value} (hc : ACall P G f args [] fun r _ => r = .fz .bool true)
    (hg : ∀ g v, gk G g = some v → Glo0 w g v) (hv : RelL (Cx.start G w) args vs) :
    Calls P f vs.toArray w fun e w' => e = .returned (.bool true) ∧ Below w.heap.size w w' :=
  (acall_start hc hg hv).mono fun e w' ⟨v, c', r, h1, _, h3, h4, h5⟩ => by
    subst h5
    rw [rel_bool] at h4
    subst h4
    exact ⟨h1, h3⟩
end Go.Ab
