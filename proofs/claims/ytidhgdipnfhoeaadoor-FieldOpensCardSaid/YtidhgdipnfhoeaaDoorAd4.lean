/-
  Arguments as data: for good, or for one call.
-/
import Derived.Test.YtidhgdipnfhoeaaDoorAd3
namespace Go.Ab
open Go
/-! ### what leads nowhere -/
def Ty.flat : Ty → Bool
  | .list _ => false
  | .one a => a.flat
  | .pair a b => a.flat && b.flat
  | .arr _ e => e.flat
  | _ => true
mutual
def AV.flat : AV → Bool
  | .fz t _ => t.flat
  | .fptr _ _ => false
  | .agg l | .tup l | .fn _ l => flatL l
  | .ifc _ a | .opt _ a => a.flat
  | _ => true
def flatL : List AV → Bool
  | [] => true
  | a :: l => a.flat && flatL l
end
def AO.flat : AO → Bool
  | .row e _ => e.flat
  | .box vs => flatL vs
  | .dead => true
theorem FzC.flat {I I' : Nat → Prop} {w w' : World} : ∀ {t : Ty} {x : t.den} {vs : List Value}, FzC I w t x vs → t.flat = true → FzC I' w' t x vs
  | .int _, _, _, h, _ => h
  | .bool, _, _, h, _ => h
  | .str, _, _, h, _ => h
  | .flt _, _, _, h, _ => h
  | .raw, _, _, h, _ => h
  | .list _, _, _, _, hf => by cases hf
  | .one a, x, vs, h, hf => FzC.flat (t := a) h hf
  | .pair a b, x, vs, h, hf => by
    unfold Ty.flat at hf
    simp only [Bool.and_eq_true] at hf
    obtain ⟨l, r, e, h1, h2⟩ := h
    exact ⟨l, r, e, FzC.flat h1 hf.1, FzC.flat h2 hf.2⟩
  | .arr n e, x, vs, h, hf => by
    obtain ⟨hl, css, hn, he, hall⟩ := h
    exact ⟨hl, css, hn, he, fun i hi => FzC.flat (hall i hi) hf⟩
structure Fl (f : Nat → Nat) (c c2 : Cx) : Prop where
  w : c2.w = c.w
  tok : ∀ (t : Nat) o, c.A[t]? = some o → c2.A[f t]? = some (mapO f o) ∧ (o.live = true → c2.ρ (f t) = c.ρ t)
section
variable {f : Nat → Nat} {c c2 : Cx}
mutual
theorem fl_rel (F : Fl f c c2) : ∀ (a : AV) (v : Value), a.flat = true → Rel c a v → Rel c2 (a.map f) v
  | .fz t x, v, hf, h => by
    unfold AV.map; unfold AV.flat at hf; unfold Rel at *
    obtain ⟨cs, h1, h2⟩ := h
    exact ⟨cs, h1.flat hf, h2⟩
  | .fptr t x, v, hf, h => by cases hf
  | .ref tok off len, v, _, h => by
    unfold AV.map; unfold Rel at *
    cases ho : c.A[tok]? with
    | none => rw [ho] at h; exact h.elim
    | some o =>
      obtain ⟨k1, k2⟩ := F.tok tok o ho
      rw [ho] at h
      rw [k1]
      cases o with
      | dead => trivial
      | box vs => trivial
      | row e xs =>
        have k2 := k2 rfl
        simp only [mapO] at h ⊢
        rw [k2, F.w]; exact h
  | .nilSl, v, _, h => by unfold AV.map; unfold Rel at *; exact h
  | .ptr tok off, v, _, h => by
    unfold AV.map; unfold Rel at *
    cases ho : c.A[tok]? with
    | none => rw [ho] at h; exact h.elim
    | some o =>
      obtain ⟨k1, k2⟩ := F.tok tok o ho
      rw [ho] at h
      rw [k1]
      cases o with
      | dead => trivial
      | row e xs => trivial
      | box vs =>
        have k2 := k2 rfl
        simp only [mapO] at h ⊢
        rw [k2]; exact h
  | .elt tok i off, v, _, h => by
    unfold AV.map; unfold Rel at *
    cases ho : c.A[tok]? with
    | none => rw [ho] at h; exact h.elim
    | some o =>
      obtain ⟨k1, k2⟩ := F.tok tok o ho
      rw [ho] at h
      rw [k1]
      cases o with
      | dead => trivial
      | box vs => trivial
      | row e xs =>
        have k2 := k2 rfl
        simp only [mapO] at h ⊢
        rw [k2]; exact h
  | .glob g, v, _, h => by unfold AV.map; unfold Rel at *; exact h
  | .agg l, v, hf, h => by
    unfold AV.map; unfold AV.flat at hf; unfold Rel at *
    obtain ⟨vs, h1, h2⟩ := h
    exact ⟨vs, h1, fl_relL F l vs hf h2⟩
  | .tup l, v, hf, h => by
    unfold AV.map; unfold AV.flat at hf; unfold Rel at *
    obtain ⟨vs, h1, h2⟩ := h
    exact ⟨vs, h1, fl_relL F l vs hf h2⟩
  | .fn g l, v, hf, h => by
    unfold AV.map; unfold AV.flat at hf; unfold Rel at *
    obtain ⟨vs, h1, h2⟩ := h
    exact ⟨vs, h1, fl_relL F l vs hf h2⟩
  | .ifc t a, v, hf, h => by
    unfold AV.map; unfold AV.flat at hf; unfold Rel at *
    obtain ⟨u, h1, h2⟩ := h
    exact ⟨u, h1, fl_rel F a u hf h2⟩
  | .opt g a, v, hf, h => by
    unfold AV.map; unfold AV.flat at hf; unfold Rel at *
    exact ⟨fun hg => fl_rel F a v hf (h.1 hg), h.2⟩
  | .unk, v, _, _ => by unfold AV.map; unfold Rel; trivial
theorem fl_relL (F : Fl f c c2) : ∀ (l : List AV) (vs : List Value), flatL l = true → RelL c l vs → RelL c2 (mapL f l) vs
  | [], vs, _, h => by unfold mapL; exact h
  | a :: l, vs, hf, h => by
    unfold flatL at hf
    simp only [Bool.and_eq_true] at hf
    unfold mapL
    unfold RelL at *
    obtain ⟨v, r, e, h1, h2⟩ := h
    exact ⟨v, r, e, fl_rel F a v hf.1 h1, fl_relL F l r hf.2 h2⟩
end
theorem fl_obj (F : Fl f c c2) {r : Option Nat} {o : AO} (hf : o.flat = true) (h : ObjOk c r o) : ObjOk c2 r (mapO f o) := by
  cases o with
  | dead => trivial
  | row e xs =>
    rcases h with h | ⟨b, cs, et, h1, h2, h3⟩
    · exact .inl h
    · refine .inr ⟨b, cs, et, h1, by rw [F.w]; exact h2, fun i hi => ?_⟩
      obtain ⟨ds, k1, k2⟩ := h3 i hi
      exact ⟨ds, k1.flat hf, k2⟩
  | box vs =>
    obtain ⟨b, cs, et, h1, h2, h3⟩ := h
    exact ⟨b, cs, et, h1, by rw [F.w]; exact h2, fl_relL F vs cs hf h3⟩
end
/-! ### arguments turned -/
inductive Cv where
  | keep
  | dat (t : Ty)
  | pt (t : Ty)
def aggB : AV → Bool
  | .agg _ => true
  | .fz t _ => t.isAgg
  | _ => false
def conv1 (A : List AO) (cv : Cv) (v : AV) : Option Prop × Option AV × List AO := match cv with
  | .keep => (none, some v, A)
  | .dat t => match bEq (aggB v) t.isAgg with
    | true => match toD A t v with
      | (C, some x, A') => (C, some (.fz t x), A')
      | (C, none, A') => (C, none, A')
    | false => (none, none, A)
  | .pt t => match v with
    | .ptr tok 0 => match A[tok]? with
      | some (.box vs) => match goodC A vs with
        | true => match frz (A.set tok .dead) vs with
          | (C, l, A') => match t.ofC l with
            | some x => (C, some (.fptr t x), A')
            | none => (C, none, A')
        | false => (none, none, A)
      | _ => (none, none, A)
    | _ => (none, none, A)
def conv (A : List AO) : List Cv → List AV → Option Prop × Option (List AV) × List AO
  | [], [] => (none, some [], A)
  | cv :: cvs, v :: vs => match conv1 A cv v with
    | (C, some v', A') => match conv A' cvs vs with
      | (C', some vs', A'') => (andC C C', some (v' :: vs'), A'')
      | (C', none, A'') => (C', none, A'')
    | (C, none, A') => (C, none, A')
  | _, _ => (none, none, A)
theorem rel_tok_ok {c : Cx} {tok off : Nat} {vs : List AV} {v : Value} (h0 : c.A[tok]? = some (.box vs)) (h : Rel c (.ptr tok off) v) : ∃ b, c.ρ tok = some b ∧ v = .pointer (some ⟨b, off, none⟩) := by
  unfold Rel at h; rw [h0] at h; exact h
theorem conv1_sound {c : Cx} (H : HR c) {cv : Cv} {a a' : AV} {v : Value} (hr : Rel c a v) (hC : Hold (conv1 c.A cv a).1) (hs : (conv1 c.A cv a).2.1 = some a') :
    ∃ c', Killed c c' ∧ Ext c c' ∧ HR c' ∧ c'.A = (conv1 c.A cv a).2.2 ∧ Rel c' a' v := by
  cases cv with
  | keep => cases hs; exact ⟨c, Killed.refl c, Ext.refl c, H, rfl, hr⟩
  | dat t =>
    unfold conv1 at *
    simp only at hC hs ⊢
    cases hb : bEq (aggB a) t.isAgg with
    | false => rw [hb] at hs; cases hs
    | true =>
    rw [hb] at hC hs
    simp only at hC hs ⊢
    have hb := bEq_of hb
    generalize hd : toD c.A t a = d at *
    obtain ⟨C, ox, A'⟩ := d
    cases ox with
    | none => cases hs
    | some x =>
      simp only at hC hs ⊢
      cases hs
      have hC1 : Hold (toD c.A t a).1 := by rw [hd]; exact hC
      obtain ⟨c', k1, k2, k3, k4, k5⟩ := toD_sound (t := t) (x := x) H hr hC1 (by rw [hd])
      rw [hd] at k4
      refine ⟨c', k1, k2, k3, k4, ?_⟩
      have hv := rel_fz_mk k5
      have hcells : valOf t v.cells.toList = v := by
        have hl := k5.len
        have single : ocell v = true → t.isAgg = false → valOf t v.cells.toList = v := fun ho ha => by
          unfold valOf; rw [if_neg (by simp [ha]), ocell_cells ho]; rfl
        have hg := toD_good hC1
        cases a with
        | agg vs =>
          unfold Rel at hr
          obtain ⟨us, rfl, _⟩ := hr
          unfold valOf; rw [← hb]; simp [aggB, Value.cells]
        | fz u y =>
          unfold Rel at hr
          obtain ⟨cs, h1, rfl⟩ := hr
          rw [valOf_cells h1]
          have hb : u.isAgg = t.isAgg := hb
          unfold valOf; rw [hb]
        | _ =>
          refine single ?_ hb.symm
          unfold goodC acells at hg
          simp only [List.all_cons, List.all_nil, Bool.and_true, Bool.and_eq_true] at hg
          exact one_ocell hg.1 hg.2 hr
      rw [← hcells]; exact hv
  | pt t =>
    unfold conv1 at *
    simp only at hC hs ⊢
    cases a <;> try (cases hs; done)
    rename_i tok off
    cases off with
    | succ o => cases hs
    | zero =>
    simp only at hC hs ⊢
    cases h0 : c.A[tok]? with
    | none => rw [h0] at hs; cases hs
    | some o =>
      rw [h0] at hC hs
      cases o <;> try (cases hs; done)
      rename_i vs
      simp only at hC hs ⊢
      cases hg : goodC c.A vs with
      | false => rw [hg] at hs; cases hs
      | true =>
        rw [hg] at hC hs
        simp only at hC hs ⊢
        obtain ⟨b, hb, rfl⟩ := rel_tok_ok h0 hr
        have hlive : c.live tok := ⟨_, h0, rfl⟩
        have ho := H.obj tok _ h0
        rw [hb] at ho
        obtain ⟨b', cs, et, hb', hh, hrel⟩ := ho
        cases hb'
        have Hk := hr_kill H tok
        have Ek := ext_kill c tok
        have hkA : (c.kill tok).A = c.A.set tok .dead := rfl
        generalize hd : frz (c.A.set tok .dead) vs = d at *
        obtain ⟨C, l, A'⟩ := d
        simp only at hC hs ⊢
        cases hx : t.ofC l with
        | none => rw [hx] at hs; cases hs
        | some x =>
          rw [hx] at hC hs
          simp only at hC hs ⊢
          cases hs
          obtain ⟨c', k1, k2, k3, k4, k5⟩ := frz_sound vs (c.kill tok) cs Hk (hrel.ext Ek) (by rw [hkA, hd]; exact hC)
          rw [hkA, hd] at k4 k5
          refine ⟨c', (killed_kill c tok (get_lt h0)).trans k1, Ek.trans k2, k3, k4, ?_⟩
          have hIk : (c.kill tok).I b := ⟨H.far tok b hlive hb, fun t ht he => (kill_live ht).1 (H.inj t tok b (kill_live ht).2 hlive he hb)⟩
          obtain ⟨j1, j2⟩ := k2.le.I b hIk (some_lt hh)
          have hf := ofC_sound t _ _ _ hx k5
          unfold Rel
          refine ⟨b, 0, cs, rfl, j1, heap_lt (some_lt hh) j2, hf, fun j hj => ?_⟩
          rw [cell_heap (w := c.w) j2]
          unfold World.cell?
          simp only [hh]
          simp [List.getElem?_eq_getElem hj]
theorem conv_sound : ∀ (cvs : List Cv) (l : List AV) (c : Cx) (l' : List AV) (vs : List Value), HR c → RelL c l vs → Hold (conv c.A cvs l).1 → (conv c.A cvs l).2.1 = some l' →
    ∃ c', Killed c c' ∧ Ext c c' ∧ HR c' ∧ c'.A = (conv c.A cvs l).2.2 ∧ RelL c' l' vs
  | [], [], c, l', vs, H, hr, _, hs => by cases hs; exact ⟨c, Killed.refl c, Ext.refl c, H, rfl, hr⟩
  | [], _ :: _, _, _, _, _, _, _, hs => by cases hs
  | _ :: _, [], _, _, _, _, _, _, hs => by cases hs
  | cv :: cvs, a :: l, c, l', vs, H, hr, hC, hs => by
    unfold RelL at hr
    obtain ⟨v, r, rfl, h1, h2⟩ := hr
    unfold conv at *
    generalize hd : conv1 c.A cv a = d at *
    obtain ⟨C, oa, A1⟩ := d
    cases oa with
    | none => cases hs
    | some a' =>
      simp only at hC hs ⊢
      generalize hd2 : conv A1 cvs l = d2 at *
      obtain ⟨C2, ol, A2⟩ := d2
      cases ol with
      | none => cases hs
      | some l2 =>
        simp only at hC hs ⊢
        cases hs
        obtain ⟨hC1, hC2⟩ := andC_of hC
        obtain ⟨c1, k1, k2, k3, k4, k5⟩ := conv1_sound H h1 (by rw [hd]; exact hC1) (by rw [hd])
        rw [hd] at k4
        have k4 : c1.A = A1 := k4
        obtain ⟨c2, j1, j2, j3, j4, j5⟩ := conv_sound cvs l c1 l2 r k3 (h2.ext k2) (by rw [k4, hd2]; exact hC2) (by rw [k4, hd2])
        rw [k4, hd2] at j4
        refine ⟨c2, k1.trans j1, k2.trans j2, j3, j4, ?_⟩
        unfold RelL
        exact ⟨v, r, rfl, k5.ext j2, j5⟩
/-- arguments turned for good -/
theorem acall_conv {P : Program} {G : List (Nat × Value)} {f : FuncId} {args : List AV} {A : List AO} {K : AV → List AO → Prop} (cvs : List Cv) (args' : List AV) (A' : List AO) (C : Option Prop) (he : conv A cvs args = (C, some args', A')) (hC : Hold C) (h : ACall P G f args' A' K) : ACall P G f args A K := by
  refine ⟨h.body, fun c H hA hG vs hv => ?_⟩
  subst hA
  obtain ⟨c', k1, k2, k3, k4, k5⟩ := conv_sound cvs args c args' vs H hv (by rw [he]; exact hC) (by rw [he])
  rw [he] at k4
  have := h.run c' k3 k4 (k2.G.trans hG) vs k5
  rw [k1.w] at this
  exact this.mono fun e w' ⟨v, c2, r, h1, h2, h3, h4, h5, h6⟩ => ⟨v, c2, r, h1, h2, k2.trans h3, h4, h5, h6⟩
/-! ### arguments turned for one call -/
def flatA : List AO → Bool
  | [] => true
  | o :: A => o.flat && flatA A
theorem flatA_at : ∀ {A : List AO}, flatA A = true → ∀ (i : Nat) o, A[i]? = some o → o.flat = true
  | [], _, i, o, h => by simp at h
  | p :: A, hf, i, o, h => by
    unfold flatA at hf
    simp only [Bool.and_eq_true] at hf
    cases i with
    | zero => simp at h; subst h; exact hf.1
    | succ i => exact flatA_at hf.2 i o (by simpa using h)
theorem acall_lend {P : Program} {G : List (Nat × Value)} {f : FuncId} {args : List AV} {A : List AO} {K : AV → List AO → Prop} (cvs : List Cv) (args' : List AV) (A' : List AO) (C : Option Prop) (he : conv A cvs args = (C, some args', A')) (hC : Hold C) (hok : okLB 0 args' = true)
    (h : ACall P G f args' [] fun r As' => (r.flat && flatA As') = true ∧ K (r.map (frN [] A.length)) (A ++ mapOs (frN [] A.length) As')) : ACall P G f args A K := by
  refine ⟨h.body, fun c H hcA hG vs hv => ?_⟩
  subst hcA
  obtain ⟨c1, k1, k2, k3, k4, k5⟩ := conv_sound cvs args c args' vs H hv (by rw [he]; exact hC) (by rw [he])
  -- the callee's state: it owns nothing
  let cs : Cx := { ρ := fun _ => none, A := [], X := fun b => c1.X b ∨ ∃ t, c1.live t ∧ c1.ρ t = some b, w := c1.w, G := c1.G }
  have csI : ∀ b, c1.I b ↔ cs.I b := fun b => by
    constructor
    · intro hb
      refine ⟨?_, fun i hi => by obtain ⟨o, h1, _⟩ := hi; simp [cs] at h1⟩
      rintro (hx | ⟨t, h1, h2⟩)
      · exact hb.1 hx
      · exact hb.2 t h1 h2
    · intro hb
      exact ⟨fun hx => hb.1 (.inl hx), fun t ht he => hb.1 (.inr ⟨t, ht, he⟩)⟩
  have B : Bw (nameOf []) c1 cs := ⟨fun b hb => (csI b).1 hb, rfl, fun t o h1 _ => by simp [cs] at h1⟩
  have Hs : HR cs := by
    refine ⟨fun i b hi _ => ?_, fun i j b hi => ?_, fun i o hi => ?_, fun b hb => ?_, fun g v hgv => ?_⟩
    · obtain ⟨o, h1, _⟩ := hi; simp [cs] at h1
    · obtain ⟨o, h1, _⟩ := hi; simp [cs] at h1
    · simp [cs] at hi
    · rcases hb with hx | ⟨t, h1, h2⟩
      · exact k3.old b hx
      · exact k3.lt h1 h2
    · exact (k3.glo g v hgv).mono fun b hb _ => ⟨(csI b).1 hb, rfl⟩
  have hvs : RelL cs args' vs := bw_relL B args' vs hok (by rw [mapL_okB _ _ hok]; exact k5)
  have hrun := h.run cs Hs rfl (k2.G.trans hG) vs hvs
  rw [show cs.w = c.w from k1.w] at hrun
  refine hrun.mono fun e w' ⟨v, c2, r, h1, h2, E2, H2, hr, hfl, hK⟩ => ?_
  simp only [Bool.and_eq_true] at hfl
  have hX2 : ∀ b, c2.X b ↔ (c1.X b ∨ ∃ t, c1.live t ∧ c1.ρ t = some b) := fun b => by rw [E2.X]
  -- every object's block is as it was
  have same : ∀ t b, c.live t → c.ρ t = some b → c2.w.heap[b]? = c.w.heap[b]? ∧ ∀ i, c2.live i → c2.ρ i ≠ some b := fun t b ht hb => by
    have hbl := H.lt ht hb
    obtain ⟨o, ho, hol⟩ := ht
    have hw : cs.w.heap[b]? = c.w.heap[b]? := by rw [show cs.w = c.w from k1.w]
    rcases k1.A t with hA | hA
    · have hl1 : c1.live t := ⟨o, by rw [hA]; exact ho, hol⟩
      have hx : cs.X b := .inr ⟨t, hl1, by rw [k1.ρ]; exact hb⟩
      exact ⟨(E2.far b hx).trans hw, fun i hi he => H2.far i b hi he (by rw [E2.X]; exact hx)⟩
    · have hI1 : c1.I b := by
        refine ⟨by rw [k2.X]; exact H.far t b ⟨o, ho, hol⟩ hb, fun u hu he => ?_⟩
        rw [k1.ρ] at he
        have hu' : c.live u := by
          obtain ⟨q, q1, q2⟩ := hu
          rcases k1.A u with h | h
          · exact ⟨q, by rw [← h]; exact q1, q2⟩
          · rw [h] at q1; cases q1; cases q2
        have := H.inj u t b hu' ⟨o, ho, hol⟩ he hb
        subst this
        obtain ⟨q, q1, q2⟩ := hu
        rw [hA] at q1; cases q1; cases q2
      obtain ⟨j1, j2⟩ := E2.le.I b ((csI b).1 hI1) (by rw [show cs.w = c.w from k1.w]; exact hbl)
      exact ⟨j2.trans hw, fun i hi => j1.2 i hi⟩
  let c3 : Cx := { ρ := fun t => if t < c.A.length then c.ρ t else c2.ρ (t - c.A.length), A := c.A ++ mapOs (frN [] c.A.length) c2.A, X := c.X, w := c2.w, G := c.G }
  have fN : ∀ i, frN [] c.A.length i = c.A.length + i := fun i => by unfold frN; simp
  have oldA : ∀ t, t < c.A.length → c3.A[t]? = c.A[t]? := fun t ht => by show (c.A ++ _)[t]? = _; rw [List.getElem?_append_left ht]
  have oldρ : ∀ t, t < c.A.length → c3.ρ t = c.ρ t := fun t ht => by show (if _ then _ else _) = _; rw [if_pos ht]
  have newA : ∀ i, c3.A[c.A.length + i]? = (c2.A[i]?).map (mapO (frN [] c.A.length)) := fun i => by
    show (c.A ++ _)[_]? = _
    rw [List.getElem?_append_right (by omega), mapOs_at]
    congr 2; omega
  have newρ : ∀ i, c3.ρ (c.A.length + i) = c2.ρ i := fun i => by
    show (if _ then _ else _) = _
    rw [if_neg (by omega), show c.A.length + i - c.A.length = i by omega]
  have split : ∀ t, c3.live t → (t < c.A.length ∧ c.live t) ∨ ∃ i, t = c.A.length + i ∧ c2.live i := fun t ⟨o, h1, h2⟩ => by
    by_cases ht : t < c.A.length
    · rw [oldA t ht] at h1; exact .inl ⟨ht, o, h1, h2⟩
    · rw [show t = c.A.length + (t - c.A.length) by omega, newA] at h1
      cases hq : c2.A[t - c.A.length]? with
      | none => rw [hq] at h1; cases h1
      | some q =>
        rw [hq] at h1; cases h1
        exact .inr ⟨t - c.A.length, by omega, q, hq, by cases q <;> first | rfl | cases h2⟩
  have I3 : ∀ b, c.I b → b < c.w.heap.size → c3.I b ∧ c2.w.heap[b]? = c.w.heap[b]? := fun b hb hlt => by
    have hb1 := (k2.le.I b hb hlt).1
    obtain ⟨j1, j2⟩ := E2.le.I b ((csI b).1 hb1) (by rw [show cs.w = c.w from k1.w]; exact hlt)
    refine ⟨⟨hb.1, fun t ht he => ?_⟩, j2.trans (by rw [show cs.w = c.w from k1.w])⟩
    rcases split t ht with ⟨l1, l2⟩ | ⟨i, rfl, l2⟩
    · rw [oldρ t l1] at he; exact hb.2 t l2 he
    · rw [newρ] at he; exact j1.2 i l2 he
  have Fl3 : Fl (frN [] c.A.length) c2 c3 := ⟨rfl, fun t o ht => by rw [fN, newA, newρ, ht]; exact ⟨rfl, fun _ => rfl⟩⟩
  have E3 : Ext c c3 := by
    refine ⟨⟨I3, fun t ht => ?_, by show _ ≤ (c.A ++ _).length; simp⟩, rfl, rfl, fun b hb => ?_, ?_⟩
    · have := TokLe.refl ht
      unfold TokLe at *
      rw [oldA t ht, oldρ t ht]
      cases hA : c.A[t]? with
      | none => rw [hA] at this; exact this
      | some o =>
        rw [hA] at this
        cases o with
        | dead => trivial
        | box us => exact this
        | row el xs =>
          simp only at this ⊢
          refine ⟨this.1, by simp, fun b cells et hb hh => ⟨cells, ?_, rfl⟩⟩
          rw [← hh]; exact (same t b ⟨_, hA, rfl⟩ hb).1
    · have := E2.far b (.inl (by rw [k2.X]; exact hb))
      exact this.trans (by rw [show cs.w = c.w from k1.w])
    · have := E2.st
      rw [show cs.w = c.w from k1.w] at this; exact this
  have H3 : HR c3 := by
    refine ⟨fun t b ht hb => ?_, fun t u b ht hu g1 g2 => ?_, fun t o ho => ?_, fun b hb => ?_, fun g v' hgv => ?_⟩
    · rcases split t ht with ⟨l1, l2⟩ | ⟨i, rfl, l2⟩
      · rw [oldρ t l1] at hb; exact H.far t b l2 hb
      · rw [newρ] at hb
        exact fun hx => H2.far i b l2 hb ((hX2 b).2 (.inl (by rw [k2.X]; exact hx)))
    · rcases split t ht with ⟨l1, l2⟩ | ⟨i, rfl, l2⟩ <;> rcases split u hu with ⟨m1, m2⟩ | ⟨j, rfl, m2⟩
      · rw [oldρ t l1] at g1; rw [oldρ u m1] at g2; exact H.inj t u b l2 m2 g1 g2
      · rw [oldρ t l1] at g1; rw [newρ] at g2; exact absurd g2 ((same t b l2 g1).2 j m2)
      · rw [oldρ u m1] at g2; rw [newρ] at g1; exact absurd g1 ((same u b m2 g2).2 i l2)
      · rw [newρ] at g1 g2; rw [H2.inj i j b l2 m2 g1 g2]
    · by_cases ht : t < c.A.length
      · rw [oldA t ht] at ho
        rw [oldρ t ht]
        exact objOk_ext E3 (H.obj t o ho) (fun hl b hb => (same t b ⟨o, ho, hl⟩ hb).1)
      · rw [show t = c.A.length + (t - c.A.length) by omega, newA] at ho
        rw [show t = c.A.length + (t - c.A.length) by omega, newρ]
        cases hq : c2.A[t - c.A.length]? with
        | none => rw [hq] at ho; cases ho
        | some q =>
          rw [hq] at ho; cases ho
          exact fl_obj Fl3 (flatA_at hfl.2 _ _ hq) (H2.obj _ _ hq)
    · exact H2.old b ((hX2 b).2 (.inl (by rw [k2.X]; exact hb)))
    · exact (H.glo g v' hgv).mono I3
  exact ⟨v, c3, r.map (frN [] c.A.length), h1, h2, E3, H3, fl_rel Fl3 r v hfl.1 hr, hK⟩
end Go.Ab
