/-
  Operations with guards; regions in the text's order.
-/
import Derived.Test.YtidhgdipnfhoeaaDoorAc6
namespace Go.Ab
open Go
/-! ### guards -/
def stripAV : AV → AV
  | .opt _ v => v
  | v => v
def stripT : List (Nat × AV) → List (Nat × AV)
  | [] => []
  | (n, v) :: T => (n, stripAV v) :: stripT T
def stripC (v : AV) : Option Prop := match v with
  | .opt g _ => some (g = true)
  | _ => none
def stripCs (T : List (Nat × AV)) : List Operand → Option Prop
  | [] => none
  | x :: l => andC (stripC (ev T x)) (stripCs T l)
theorem lk_strip (n : Nat) : ∀ T : List (Nat × AV), lk (stripT T) n = stripAV (lk T n)
  | [] => rfl
  | (m, v) :: T => by
    unfold stripT lk
    split
    · rfl
    · exact lk_strip n T
theorem ev_strip {c : Cx} {T : List (Nat × AV)} {x : Operand} {v : Value} (h : Rel c (ev T x) v) (hC : Hold (stripC (ev T x))) : Rel c (ev (stripT T) x) v := by
  cases x with
  | tmp n =>
    show Rel c (lk (stripT T) n) v
    rw [lk_strip]
    have h : Rel c (lk T n) v := h
    have hC : Hold (stripC (lk T n)) := hC
    cases he : lk T n <;> rw [he] at h hC <;> try exact h
    unfold Rel at h
    exact h.1 hC
  | const v => exact h
  | global g => exact h
  | func f => exact h
theorem evs_strip {c : Cx} {T : List (Nat × AV)} {f : Operand → Value} : ∀ {l : List Operand}, (∀ x ∈ l, Rel c (ev T x) (f x)) → Hold (stripCs T l) → ∀ x ∈ l, Rel c (ev (stripT T) x) (f x)
  | [], _, _, x, hx => by cases hx
  | y :: l, h, hC, x, hx => by
    unfold stripCs at hC
    obtain ⟨h1, h2⟩ := andC_of hC
    rcases List.mem_cons.1 hx with rfl | hx
    · exact ev_strip (h x (List.mem_cons_self ..)) h1
    · exact evs_strip (fun z hz => h z (List.mem_cons_of_mem _ hz)) h2 x hx
def wantB (want b : Bool) : Bool := match want with
  | true => b
  | false => !b
def gtmp (L : List Oper) (o : Oper) : Option (Nat × Bool) := match o.guard with
  | none => none
  | some (j, want) => match L[j]? with
    | some oj => match oj.dst with
      | some t => some (t, want)
      | none => none
    | none => none
def guardB (T : List (Nat × AV)) (t : Nat) (want : Bool) : Option Bool := match lk T t with
  | .fz .bool b => some (wantB want b)
  | .opt g (.fz .bool b) => some (g && wantB want b)
  | _ => none
theorem gtmp_wanted {L : List Oper} {o : Oper} {t : Nat} {want : Bool} {T : List (Nat × AV)} {a : Act} {c : Cx} {g : Bool} (hg : gtmp L o = some (t, want)) (hb : guardB T t want = some g) (hr : Rel c (lk T t) (a.tmps.getD t undef)) :
    Region.wanted o (yielded L.toArray a.tmps) = g := by
  unfold gtmp at hg
  cases hgd : o.guard with
  | none => rw [hgd] at hg; cases hg
  | some jw =>
    obtain ⟨j, w⟩ := jw
    rw [hgd] at hg
    simp only at hg
    cases hj : L[j]? with
    | none => rw [hj] at hg; cases hg
    | some oj =>
      rw [hj] at hg
      simp only at hg
      cases hd : oj.dst with
      | none => rw [hd] at hg; cases hg
      | some t' =>
        rw [hd] at hg
        cases hg
        have hy : yielded L.toArray a.tmps j = (match a.tmps[t]? with | some (.bool b) => some b | _ => none) := by
          unfold yielded
          simp only [List.getElem?_toArray, hj, Option.bind_some, hd]
          cases a.tmps[t]? with
          | none => rfl
          | some v => cases v <;> rfl
        have key : ∀ b, a.tmps.getD t undef = .bool b → yielded L.toArray a.tmps j = some b := by
          intro b hb'
          rw [hy]
          cases ht : a.tmps[t]? with
          | none => rw [Array.getD_eq_getD_getElem?, ht] at hb'; cases hb'
          | some v => rw [Array.getD_eq_getD_getElem?, ht] at hb'; simp at hb'; rw [hb']
        have keyU : a.tmps.getD t undef = undef → yielded L.toArray a.tmps j = none := by
          intro hb'
          rw [hy]
          cases ht : a.tmps[t]? with
          | none => rfl
          | some v => rw [Array.getD_eq_getD_getElem?, ht] at hb'; simp at hb'; rw [hb']; rfl
        unfold Region.wanted
        rw [hgd]
        simp only
        unfold guardB at hb
        split at hb
        · rename_i b he
          rw [he] at hr
          cases hb
          rw [key b (rel_bool.1 hr)]
          cases want <;> cases b <;> rfl
        · rename_i g' b he
          rw [he] at hr
          cases hb
          unfold Rel at hr
          obtain ⟨h1, h2⟩ := hr
          cases g' with
          | false =>
            rw [keyU (h2 rfl)]; rfl
          | true =>
            rw [key b (rel_bool.1 (h1 rfl))]
            cases want <;> cases b <;> rfl
        · cases hb
def optR (g : Bool) (s : Option Prop) (x : AR) : AR := (impC g (andC s x.1), .opt g x.2)
def Kind.isPure : Kind → Bool
  | .pure => true
  | _ => false
def withC (C : Option Prop) (p : Prop) : Prop := match C with
  | none => p
  | some C => C ∧ p
theorem withC_of {C : Option Prop} {p : Prop} (h : withC C p) : Hold C ∧ p := by
  cases C
  · exact ⟨trivial, h⟩
  · exact h
def agRun (P : Program) (D : Tab) (G : List (Nat × Value)) (L : List Oper) (A : List AO) (T : List (Nat × AV)) (o : Oper) (K : AV → List AO → Prop) : Prop :=
  match o.guard with
  | none => aRun P D G A T o.op K
  | some _ => match gtmp L o with
    | none => False
    | some (t, want) => match guardB T t want with
      | none => False
      | some g => match (aKind D A (stripT T) o.op).isPure with
        | true => runP (optR g (stripCs T o.op.operands.toList) (apure D G A (stripT T) o.op)) fun v => K v A
        | false => (g = true → withC (stripCs T o.op.operands.toList) (aRun P D G A (stripT T) o.op K)) ∧ (g = false → K .unk A)
def Tied (L : List Oper) (c : Cx) (T : List (Nat × AV)) (a : Act) (o : Oper) : Prop :=
  (∀ x ∈ o.op.operands, Rel c (ev T x) (a.eval x)) ∧ ∀ t want, gtmp L o = some (t, want) → Rel c (lk T t) (a.tmps.getD t undef)
theorem wp_of_runOk {P : Program} {c : Cx} {o : Oper} {a : Act} {K : Cx → Value → Prop} {K' : Act → World → Prop} {Q : Exit → Act → World → Prop} (h : RunOk P c (execOp a.eval o) K) (hk : ∀ c' v, K c' v → K' (a.put o.dst v) c'.w) : o.wp P a c.w K' Q := by
  unfold Oper.wp
  rcases h with ⟨c', nx, v, h1, h2, h3⟩ | ⟨f, vs, h1, h2⟩
  · rw [h1]
    rcases h2 with rfl | ⟨rfl, rfl⟩
    · exact hk _ _ h3
    · exact hk _ _ h3
  · rw [h1]
    exact h2.mono fun e w' ⟨v, c', he, hw, hK⟩ => by subst he; subst hw; exact hk _ _ hK
theorem rel_unk {c : Cx} {v : Value} : Rel c .unk v := by unfold Rel; trivial
theorem agRun_sound {P : Program} {D : Tab} (hD : TabOk P D) {L : List Oper} {c : Cx} (H : HR c) {T : List (Nat × AV)} {a : Act} {o : Oper} {i : Nat} (hi : L[i]? = some o) (hT : Tied L c T a o) {K : AV → List AO → Prop} (h : agRun P D c.G L c.A T o K)
    {K' : Act → World → Prop} {Q : Exit → Act → World → Prop} (hk : ∀ c' u r, Ext c c' → HR c' → Rel c' r u → K r c'.A → K' (a.put o.dst u) c'.w) : wpOp P L.toArray Q i K' a c.w := by
  unfold wpOp
  have hi' : L.toArray[i]? = some o := by simpa using hi
  rw [hi']
  simp only
  have go : ∀ {T' : List (Nat × AV)}, (∀ x ∈ o.op.operands, Rel c (ev T' x) (a.eval x)) → aRun P D c.G c.A T' o.op K → o.wp P a c.w K' Q := fun hT' h' =>
    wp_of_runOk (aRun_sound hD H hT' h') fun c' v ⟨r, A', h1, h2, h3, h4, h5⟩ => by subst h3; exact hk c' v r h1 h2 h4 h5
  unfold agRun at h
  cases hg : o.guard with
  | none =>
    rw [hg] at h
    have : Region.wanted o (yielded L.toArray a.tmps) = true := by unfold Region.wanted; rw [hg]
    rw [if_pos this]
    exact .inl (go hT.1 h)
  | some jw =>
    rw [hg] at h
    simp only at h
    cases hgt : gtmp L o with
    | none => rw [hgt] at h; exact h.elim
    | some tw =>
      obtain ⟨t, want⟩ := tw
      rw [hgt] at h
      simp only at h
      cases hb : guardB T t want with
      | none => rw [hb] at h; exact h.elim
      | some g =>
        rw [hb] at h
        simp only at h
        have hw := gtmp_wanted hgt hb (hT.2 t want hgt)
        rw [hw]
        have hstrip : Hold (stripCs T o.op.operands.toList) → ∀ x ∈ o.op.operands, Rel c (ev (stripT T) x) (a.eval x) := fun hC x hx =>
          evs_strip (l := o.op.operands.toList) (fun y hy => hT.1 y (by simpa using hy)) hC x (by simpa using hx)
        cases hp : (aKind D c.A (stripT T) o.op).isPure with
        | true =>
          rw [hp] at h
          simp only at h
          obtain ⟨hC, hK⟩ := runP_of h
          cases g with
          | true =>
            rw [if_pos rfl]
            have hC := impC_of hC rfl
            obtain ⟨h1, h2⟩ := andC_of hC
            obtain ⟨v, e1, e2⟩ := apure_sound hD H (hstrip h1) h2
            refine .inl ?_
            unfold Oper.wp
            rw [e1]
            refine hk c v _ (Ext.refl c) H ?_ hK
            unfold optR Rel
            exact ⟨fun _ => e2, fun h => by cases h⟩
          | false =>
            rw [if_neg (by simp)]
            refine hk c undef _ (Ext.refl c) H ?_ hK
            unfold optR Rel
            exact ⟨(fun h => by cases h), fun _ => rfl⟩
        | false =>
          rw [hp] at h
          simp only at h
          cases g with
          | true =>
            rw [if_pos rfl]
            obtain ⟨h1, h2⟩ := withC_of (h.1 rfl)
            exact .inl (go (hstrip h1) h2)
          | false =>
            rw [if_neg (by simp)]
            exact hk c undef .unk (Ext.refl c) H rel_unk (h.2 rfl)
/-! ### states -/
structure St where
  T : List (Nat × AV)
  A : List AO
/-- frames of N temporaries; c0: where the call began -/
def Sim (n0 : Nat) (c0 : Cx) (N : Nat) (σ : St) (a : Act) (w : World) : Prop := ∃ c : Cx, c.w = w ∧ c.A = σ.A ∧ HR c ∧ TR c σ.T a.tmps ∧ ExtN n0 c0 c ∧ a.defers = [] ∧ a.tmps.size = N
def upd (d : Option Tmp) (v : AV) (T : List (Nat × AV)) : List (Nat × AV) := match d with
  | some d => (d, v) :: T
  | none => T
def inB (N : Nat) : Option Tmp → Bool
  | some d => Nat.blt d N
  | none => true
theorem put_tr {c : Cx} {T : List (Nat × AV)} {a : Act} {d : Option Tmp} {v : AV} {u : Value} {N : Nat} (h : TR c T a.tmps) (hN : a.tmps.size = N) (hd : inB N d = true) (hv : Rel c v u) : TR c (upd d v T) (a.put d u).tmps ∧ (a.put d u).tmps.size = N ∧ (a.put d u).defers = a.defers := by
  cases d with
  | none => exact ⟨h, hN, rfl⟩
  | some d =>
    refine ⟨h.put (by rw [hN]; exact blt_of hd) hv, ?_, rfl⟩
    unfold Act.put; simp [hN]
/-! ### a region in the text's order -/
def aOps (P : Program) (D : Tab) (G : List (Nat × Value)) (N : Nat) (L : List Oper) : List Oper → List (Nat × AV) → List AO → (List (Nat × AV) → List AO → Prop) → Prop
  | [], T, A, Q => Q T A
  | o :: os, T, A, Q => match o.dst with
    | some d => match Nat.blt d N with
      | true => agRun P D G L A T o fun v A' => aOps P D G N L os ((d, v) :: T) A' Q
      | false => False
    | none => agRun P D G L A T o fun _ A' => aOps P D G N L os T A' Q
theorem aOps_cons {P : Program} {D : Tab} {G : List (Nat × Value)} {N : Nat} {L : List Oper} {o : Oper} {os : List Oper} {T : List (Nat × AV)} {A : List AO} {Q : List (Nat × AV) → List AO → Prop} :
    aOps P D G N L (o :: os) T A Q = (match inB N o.dst with | true => agRun P D G L A T o fun v A' => aOps P D G N L os (upd o.dst v T) A' Q | false => False) := by
  obtain ⟨dst, op, type, pos, after, guard⟩ := o
  cases dst with
  | none => rfl
  | some d =>
    show (match Nat.blt d N with | true => _ | false => _) = (match Nat.blt d N with | true => _ | false => _)
    cases Nat.blt d N <;> rfl
theorem aOps_sound {P : Program} {D : Tab} (hD : TabOk P D) {L : List Oper} {N : Nat} {Qc : Exit → Act → World → Prop} {Q : List (Nat × AV) → List AO → Prop} {n0 : Nat} {c0 : Cx} : ∀ (os : List Oper) (k : Nat) (T : List (Nat × AV)) (c : Cx) (a : Act), (∀ j, os[j]? = L[k + j]?) → HR c → TR c T a.tmps → ExtN n0 c0 c → a.defers = [] → a.tmps.size = N →
    aOps P D c0.G N L os T c.A Q → (∀ c' a' T', HR c' → TR c' T' a'.tmps → ExtN n0 c0 c' → a'.defers = [] → a'.tmps.size = N → Q T' c'.A → Qc .normal a' c'.w) → wpOps P L.toArray Qc (List.range' k os.length) a c.w
  | [], k, T, c, a, _, H, hT, E, hd, hN, h, hq => hq c a T H hT E hd hN h
  | o :: os, k, T, c, a, hos, H, hT, E, hd, hN, h, hq => by
    rw [aOps_cons] at h
    cases hb : inB N o.dst with
    | false => rw [hb] at h; exact h.elim
    | true =>
      rw [hb] at h
      simp only at h
      rw [← E.G] at h
      rw [List.length_cons, List.range'_succ, wpOps_cons]
      have hk : L[k]? = some o := by simpa using (hos 0).symm
      refine agRun_sound hD H hk ⟨fun x _ => hT.ev x, fun t _ _ => hT t⟩ h fun c' u r E' H' hr hK => ?_
      obtain ⟨k1, k2, k3⟩ := put_tr (hT.ext E') hN hb hr
      rw [E.G] at hK
      exact aOps_sound hD os (k + 1) _ c' _ (fun j => by have := hos (j + 1); simpa [Nat.add_assoc, Nat.add_comm 1 j] using this) H' k1 (E.step E') (k3.trans hd) k2 hK hq
end Go.Ab
