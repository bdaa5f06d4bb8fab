/-
  Regions that draw their order (2): the proof.
-/
import Derived.Test.YtidhgdipnfhoeaaDoorAc8
namespace Go.Ab
open Go
/-! ### what the notes say -/
def vAt (tr : List Rc) (t : Nat) (cur : AV) (S : Nat → Bool) : Nat → AV
  | 0 => cur
  | m + 1 => match tr[m]? with
    | some r => if S m = true ∧ r.o.dst = some t then r.v else vAt tr t cur S m
    | none => vAt tr t cur S m
theorem asL_head : ∀ (tr : List Rc) (A : List AO), (asL tr A)[0]? = some A
  | [], A => rfl
  | r :: tr, A => by
    unfold asL
    split
    · rfl
    · exact asL_head tr A
theorem effs_ge : ∀ (os : List Oper) (k : Nat), ∀ e ∈ effsOf os k, k ≤ e
  | [], k, e, h => by cases h
  | o :: os, k, e, h => by
    unfold effsOf at h
    split at h
    · rcases List.mem_cons.1 h with rfl | h
      · exact Nat.le_refl _
      · have := effs_ge os (k + 1) e h; omega
    · have := effs_ge os (k + 1) e h; omega
theorem cntE_zero : ∀ (E : List Nat) (i : Nat), (∀ e ∈ E, i ≤ e) → cntE E i = 0
  | [], _, _ => rfl
  | e :: E, i, h => by
    unfold cntE
    rw [if_neg (by have := h e (List.mem_cons_self ..); omega)]
    exact cntE_zero E i fun x hx => h x (List.mem_cons_of_mem _ hx)
section
variable {P : Program} {D : Tab} {G : List (Nat × Value)} {N : Nat} {L : List Oper}
theorem tr_len : ∀ {os : List Oper} {T : List (Nat × AV)} {A : List AO} {tr : List Rc} {Tf : List (Nat × AV)} {Af : List AO}, TrOk P D G N L os T A tr Tf Af → tr.length = os.length
  | [], _, _, _, _, _, h => by obtain ⟨rfl, _⟩ := h; rfl
  | o :: os, _, _, _, _, _, h => by obtain ⟨v, A1, tr', rfl, _, _, _, h⟩ := h; simp [tr_len h]
theorem tr_at : ∀ {os : List Oper} {T : List (Nat × AV)} {A : List AO} {tr : List Rc} {Tf : List (Nat × AV)} {Af : List AO}, TrOk P D G N L os T A tr Tf Af → ∀ {i : Nat} {o : Oper}, os[i]? = some o →
    ∃ r, tr[i]? = some r ∧ r.o = o ∧ inB N o.dst = true ∧ agRun P D G L r.A r.T o (fun v' A' => v' = r.v ∧ A' = r.A') ∧ (isEff o.op = false → r.A' = r.A)
  | [], _, _, _, _, _, _, i, o, h => by simp at h
  | p :: os, _, _, _, _, _, h, i, o, hi => by
    obtain ⟨v, A1, tr', rfl, h1, h2, h3, h4⟩ := h
    cases i with
    | zero => simp at hi; subst hi; exact ⟨_, rfl, rfl, h1, h2, h3⟩
    | succ i => simpa using tr_at h4 (by simpa using hi)
theorem vAt_cons (r : Rc) (tr : List Rc) (t : Nat) (cur : AV) : ∀ m, m ≤ tr.length → vAt (r :: tr) t cur (fun _ => true) (m + 1) = vAt tr t (if r.o.dst = some t then r.v else cur) (fun _ => true) m
  | 0, _ => by unfold vAt; simp [vAt]
  | m + 1, h => by
    have ih := vAt_cons r tr t cur m (by omega)
    rw [vAt, vAt.eq_def tr t _ _ (m + 1)]
    simp only [List.getElem?_cons_succ, true_and]
    rw [ih]
theorem lk_upd (d : Option Tmp) (v : AV) (T : List (Nat × AV)) (t : Nat) : lk (upd d v T) t = if d = some t then v else lk T t := by
  cases d with
  | none => rfl
  | some d =>
    show (if d = t then v else lk T t) = _
    by_cases h : d = t
    · subst h; simp
    · rw [if_neg h, if_neg (by simpa using h)]
theorem tr_lk : ∀ {os : List Oper} {T : List (Nat × AV)} {A : List AO} {tr : List Rc} {Tf : List (Nat × AV)} {Af : List AO}, TrOk P D G N L os T A tr Tf Af → ∀ t, (∀ i r, tr[i]? = some r → lk r.T t = vAt tr t (lk T t) (fun _ => true) i) ∧ lk Tf t = vAt tr t (lk T t) (fun _ => true) tr.length
  | [], _, _, _, _, _, h, t => by
    obtain ⟨rfl, rfl, _⟩ := h
    exact ⟨fun i r h => by simp at h, rfl⟩
  | o :: os, T, A, _, Tf, Af, h, t => by
    obtain ⟨v, A1, tr', rfl, h1, h2, h3, h4⟩ := h
    obtain ⟨k1, k2⟩ := tr_lk h4 t
    refine ⟨fun i r hi => ?_, ?_⟩
    · cases i with
      | zero => simp at hi; subst hi; rfl
      | succ i =>
        have hi : tr'[i]? = some r := by simpa using hi
        rw [vAt_cons _ _ _ _ _ (by have := get_lt hi; omega), k1 i r hi, lk_upd]
    · rw [List.length_cons, vAt_cons _ _ _ _ _ (Nat.le_refl _), k2, lk_upd]
theorem tr_as : ∀ {os : List Oper} {T : List (Nat × AV)} {A : List AO} {tr : List Rc} {Tf : List (Nat × AV)} {Af : List AO}, TrOk P D G N L os T A tr Tf Af → ∀ k0,
    (∀ (i : Nat) r, tr[i]? = some r → (isEff r.o.op = true → ∃ m : Nat, (effsOf os k0)[m]? = some (k0 + i) ∧ (asL tr A)[m]? = some r.A ∧ (asL tr A)[m + 1]? = some r.A') ∧ (isEff r.o.op = false → (asL tr A)[cntE (effsOf os k0) (k0 + i)]? = some r.A)) ∧
    (asL tr A)[(effsOf os k0).length]? = some Af
  | [], _, _, _, _, _, h, k0 => by
    obtain ⟨rfl, _, rfl⟩ := h
    exact ⟨fun i r h => by simp at h, rfl⟩
  | o :: os, T, A, _, Tf, Af, h, k0 => by
    obtain ⟨v, A1, tr', rfl, h1, h2, h3, h4⟩ := h
    obtain ⟨k1, k2⟩ := tr_as h4 (k0 + 1)
    cases he : isEff o.op with
    | true =>
      have e1 : effsOf (o :: os) k0 = k0 :: effsOf os (k0 + 1) := by rw [effsOf, he]
      have e2 : asL ((⟨o, T, A, v, A1⟩ : Rc) :: tr') A = A :: asL tr' A1 := by rw [asL]; simp [he]
      rw [e1, e2]
      refine ⟨fun i r hi => ?_, by simpa using k2⟩
      cases i with
      | zero =>
        simp at hi; subst hi
        exact ⟨fun _ => ⟨0, by simp, rfl, by simpa using asL_head tr' A1⟩, fun h => by rw [he] at h; cases h⟩
      | succ i =>
        obtain ⟨j1, j2⟩ := k1 i r (by simpa using hi)
        refine ⟨fun h => ?_, fun h => ?_⟩
        · obtain ⟨m, m1, m2, m3⟩ := j1 h
          exact ⟨m + 1, by rw [List.getElem?_cons_succ, m1]; congr 1; omega, by simpa using m2, by simpa using m3⟩
        · have := j2 h
          rw [cntE, if_pos (by omega), List.getElem?_cons_succ, ← this]; congr 2; omega
    | false =>
      have e1 : effsOf (o :: os) k0 = effsOf os (k0 + 1) := by rw [effsOf, he]
      have e2 : asL ((⟨o, T, A, v, A1⟩ : Rc) :: tr') A = asL tr' A1 := by rw [asL]; simp [he, h3 he]
      have hA1 := h3 he
      rw [e1, e2]
      refine ⟨fun i r hi => ?_, by simpa using k2⟩
      cases i with
      | zero =>
        simp at hi; subst hi
        refine ⟨(fun h => by rw [he] at h; cases h), fun _ => ?_⟩
        rw [cntE_zero _ _ (fun e hx => by have := effs_ge os (k0 + 1) e hx; omega), asL_head, hA1]
      | succ i =>
        obtain ⟨j1, j2⟩ := k1 i r (by simpa using hi)
        refine ⟨fun h => ?_, fun h => ?_⟩
        · obtain ⟨m, m1, m2, m3⟩ := j1 h
          exact ⟨m, by rw [m1]; congr 1; omega, m2, m3⟩
        · have := j2 h
          rw [← this]; congr 2; omega
end
/-! ### values under any set of what has come -/
theorem vAt_same {tr : List Rc} {t : Nat} {cur : AV} {S S' : Nat → Bool} : ∀ m, (∀ j r, j < m → tr[j]? = some r → r.o.dst = some t → S j = S' j) → vAt tr t cur S m = vAt tr t cur S' m
  | 0, _ => rfl
  | m + 1, h => by
    have ih := vAt_same (S := S) (S' := S') (cur := cur) m fun j r hj => h j r (by omega)
    unfold vAt
    cases hr : tr[m]? with
    | none => exact ih
    | some r =>
      simp only
      by_cases hd : r.o.dst = some t
      · rw [h m r (by omega) hr hd, ih]
      · rw [if_neg (fun x => hd x.2), if_neg (fun x => hd x.2), ih]
theorem vAt_cut {tr : List Rc} {t : Nat} {cur : AV} {S : Nat → Bool} {i : Nat} (hlo : ∀ j r, j < i → tr[j]? = some r → r.o.dst = some t → S j = true) : ∀ m, i ≤ m → (∀ j r, i ≤ j → j < m → tr[j]? = some r → r.o.dst = some t → S j = false) → vAt tr t cur S m = vAt tr t cur (fun _ => true) i
  | 0, hm, _ => by have : i = 0 := by omega
                   subst this; rfl
  | m + 1, hm, h => by
    rcases Nat.lt_or_ge m i with hlt | hge
    · have : i = m + 1 := by omega
      subst this
      exact vAt_same _ fun j r hj hr hd => hlo j r hj hr hd
    · have ih := vAt_cut (S := S) (cur := cur) hlo m hge fun j r h1 h2 => h j r h1 (by omega)
      rw [← ih]
      conv => lhs; unfold vAt
      cases hr : tr[m]? with
      | none => rfl
      | some r =>
        simp only
        rw [if_neg]
        intro x
        have := h m r hge (by omega) hr x.2
        rw [this] at x; exact absurd x.1 (by simp)
theorem vAt_add {tr : List Rc} {t : Nat} {cur : AV} {S : Nat → Bool} {i : Nat} {r : Rc} (hi : tr[i]? = some r) : ∀ m, i < m → (∀ j p, j < m → tr[j]? = some p → p.o.dst = some t → r.o.dst = some t → S j = true → j < i) →
    vAt tr t cur (fun j => decide (j = i) || S j) m = if r.o.dst = some t then r.v else vAt tr t cur S m
  | 0, h, _ => by omega
  | m + 1, h, hS => by
    by_cases hd : r.o.dst = some t
    · rw [if_pos hd]
      by_cases hm : m = i
      · subst hm
        unfold vAt; rw [hi]; simp [hd]
      · have ih := vAt_add (S := S) (cur := cur) hi m (by omega) fun j p hj => hS j p (by omega)
        rw [if_pos hd] at ih
        rw [← ih]
        conv => lhs; unfold vAt
        cases hr : tr[m]? with
        | none => rfl
        | some p =>
          simp only
          rw [if_neg]
          intro x
          have := hS m p (by omega) hr x.2 hd
          simp [hm] at x
          have := this x.1
          omega
    · rw [if_neg hd]
      refine vAt_same _ fun j p hj hp hpd => ?_
      by_cases hji : j = i
      · subst hji; rw [hi] at hp; cases hp; exact absurd hpd hd
      · simp [hji]
/-! ### all orders -/
/-- what a region's checks say -/
structure DrawOk (L : List Oper) (X : List (Nat × Nat)) : Prop where
  back : ∀ (i : Nat) o, L[i]? = some o → ∀ e ∈ o.after.toList, bindsA e = true → e.on < i
  data : ∀ (i j : Nat) o p t, L[i]? = some o → L[j]? = some p → t ∈ looksOf L o → p.dst = some t → j ≠ i → if j < i then rch (amask L []) j i = true else rch (amask L []) i j = true
  same : ∀ (i j : Nat) o p d, L[i]? = some o → L[j]? = some p → o.dst = some d → p.dst = some d → i < j → rch (amask L []) i j = true
  chain : ∀ (i : Nat) o, L[i]? = some o → isEff o.op = true → ∀ e ∈ effsOf L 0, e < i → rch (amask L []) e i = true
  pur : ∀ (i : Nat) o, L[i]? = some o → isEff o.op = false → ∀ k, k ≤ (effsOf L 0).length → okK (amask L []) i k (effsOf L 0) 0 = true → k = cntE (effsOf L 0) i ∨ pairIn i k X = true
theorem isDst_of {p : Oper} {t : Nat} (h : p.dst = some t) : isDst p t = true := by unfold isDst; rw [h]; simp
theorem drawOk {L : List Oper} {X : List (Nat × Nat)} (h : drawB L X = true) : DrawOk L X := by
  unfold drawB drawM at h
  have H : ∀ (i : Nat) o, L[i]? = some o → _ := fun i o hi => all_range h (get_lt hi)
  refine ⟨fun i o hi e he hb => ?_, fun i j o p t hi hj ht hd hne => ?_, fun i j o p d hi hj h1 h2 hlt => ?_, fun i o hi he e hm hlt => ?_, fun i o hi he k hk hok => ?_⟩
  all_goals (have h0 := H i o hi; simp only [hi, Bool.and_eq_true] at h0; obtain ⟨⟨ha, hb'⟩, hc⟩ := h0)
  · have := List.all_eq_true.1 ha e he
    rw [hb] at this
    exact blt_of (by simpa using this)
  · have h1 := all_range hb' (get_lt hj)
    simp only [hj, Bool.and_eq_true] at h1
    have h2 := List.all_eq_true.1 h1.1 t ht
    rw [isDst_of hd] at h2
    simp only [Bool.not_true, Bool.false_or, Bool.or_eq_true] at h2
    rcases h2 with h2 | h2
    · exact absurd (beq_eq h2) hne
    · split at h2
      · rename_i hlt; rw [if_pos hlt]; exact h2
      · rename_i hlt; rw [if_neg hlt]; exact h2
  · have h3 := all_range hb' (get_lt hj)
    simp only [hj, Bool.and_eq_true, h1] at h3
    have h4 := h3.2
    rw [isDst_of h2] at h4
    have : Nat.blt i j = true := Nat.ble_eq_true_of_le hlt
    rw [this] at h4
    simpa using h4
  · rw [if_pos he] at hc
    simp only [Bool.and_eq_true] at hc
    have := List.all_eq_true.1 hc.1.1 e hm
    have hb : Nat.blt e i = true := Nat.ble_eq_true_of_le hlt
    rw [hb] at this
    simpa using this
  · rw [if_neg (by simp [he])] at hc
    have := all_range hc (show k < (effsOf L 0).length + 1 by omega)
    rw [hok] at this
    simp only [Bool.not_true, Bool.false_or, Bool.or_eq_true] at this
    exact this.imp beq_eq id
theorem okK_mk {M : List Nat} {i k : Nat} : ∀ (E : List Nat) (m0 : Nat), (∀ m e, E[m]? = some e → (rch M e i = true → m0 + m < k) ∧ (rch M i e = true → k ≤ m0 + m)) → okK M i k E m0 = true
  | [], _, _ => rfl
  | e :: E, m0, h => by
    unfold okK
    obtain ⟨h1, h2⟩ := h 0 e rfl
    simp only [Bool.and_eq_true, Bool.or_eq_true, Bool.not_eq_true']
    refine ⟨⟨?_, ?_⟩, okK_mk E (m0 + 1) fun m e' he => ?_⟩
    · cases hr : rch M e i with
      | false => exact .inl rfl
      | true => exact .inr (Nat.ble_eq_true_of_le (h1 hr))
    · cases hr : rch M i e with
      | false => exact .inl rfl
      | true => exact .inr (Nat.ble_eq_true_of_le (h2 hr))
    · have := h (m + 1) e' (by simpa using he)
      rw [show m0 + 1 + m = m0 + (m + 1) by omega]; exact this
theorem extras_at {P : Program} {D : Tab} {G : List (Nat × Value)} {L : List Oper} {tr : List Rc} {As : List (List AO)} {i k : Nat} : ∀ (X : List (Nat × Nat)), extras P D G L tr As X → pairIn i k X = true →
    ∃ r A, tr[i]? = some r ∧ As[k]? = some A ∧ agRun P D G L A r.T r.o (fun v A' => v = r.v ∧ A' = A)
  | [], _, h => by cases h
  | x :: X, h, hp => by
    unfold extras at h
    unfold pairIn at hp
    simp only [Bool.or_eq_true, Bool.and_eq_true] at hp
    rcases hp with ⟨h1, h2⟩ | hp
    · have h1 := beq_eq h1
      have h2 := beq_eq h2
      subst h1; subst h2
      have h := h.1
      cases hr : tr[x.1]? with
      | none => rw [hr] at h; exact h.elim
      | some r =>
        cases hA : As[x.2]? with
        | none => rw [hr, hA] at h; exact h.elim
        | some A => rw [hr, hA] at h; exact ⟨r, A, rfl, rfl, h⟩
    · exact extras_at X h.2 hp
theorem mem_tmps {t : Nat} : ∀ {l : List Operand}, .tmp t ∈ l → t ∈ tmpsOf l
  | x :: l, h => by
    rcases List.mem_cons.1 h with rfl | h2
    · unfold tmpsOf; exact List.mem_cons_self ..
    · clear h
      have ih := mem_tmps h2
      cases x <;> unfold tmpsOf
      · exact List.mem_cons_of_mem _ ih
      all_goals exact ih
theorem ev_of {c : Cx} {T : List (Nat × AV)} {a : Act} {x : Operand} (h : ∀ t, x = .tmp t → Rel c (lk T t) (a.tmps.getD t undef)) : Rel c (ev T x) (a.eval x) := by
  cases x with
  | tmp n => exact h n rfl
  | const v => exact rel_ofV c v
  | global g => unfold Ab.ev Act.eval Rel; rfl
  | func f => unfold Ab.ev Act.eval Rel; exact ⟨[], rfl, by unfold RelL; rfl⟩
theorem countP_one {n i : Nat} {p q : Nat → Bool} (hi : i < n) (hp : p i = true) (hq : q i = false) (h : ∀ j, j ≠ i → p j = q j) : (List.range n).countP q + 1 = (List.range n).countP p := by
  induction n with
  | zero => omega
  | succ n ih =>
    rw [List.range_succ, List.countP_append, List.countP_append]
    simp only [List.countP_cons, List.countP_nil]
    by_cases hin : i = n
    · subst hin
      have : (List.range i).countP q = (List.range i).countP p := List.countP_congr fun j hj => by
        have := List.mem_range.1 hj
        rw [h j (by omega)]
      rw [this, hp, hq]; simp
    · have := ih (by omega)
      rw [h n (fun e => hin e.symm)]
      omega
theorem least_of {p : Nat → Prop} : ∀ n, p n → ∃ m, p m ∧ ∀ j, j < m → ¬ p j := by
  intro n
  induction n using Nat.strongRecOn with
  | _ n ih =>
    intro h
    by_cases hx : ∃ j, j < n ∧ p j
    · obtain ⟨j, h1, h2⟩ := hx; exact ih j h1 h2
    · exact ⟨n, h, fun j h1 h2 => hx ⟨j, h1, h2⟩⟩
theorem effs_at : ∀ (os : List Oper) (k0 e : Nat), e ∈ effsOf os k0 → ∃ o, os[e - k0]? = some o ∧ isEff o.op = true ∧ k0 ≤ e
  | [], _, _, h => by cases h
  | o :: os, k0, e, h => by
    unfold effsOf at h
    have next : e ∈ effsOf os (k0 + 1) → ∃ p, (o :: os)[e - k0]? = some p ∧ isEff p.op = true ∧ k0 ≤ e := fun h => by
      obtain ⟨p, h1, h2, h3⟩ := effs_at os (k0 + 1) e h
      refine ⟨p, ?_, h2, by omega⟩
      rw [show e - k0 = (e - (k0 + 1)) + 1 by omega, List.getElem?_cons_succ]; exact h1
    split at h
    · rename_i he
      rcases List.mem_cons.1 h with rfl | h
      · exact ⟨o, by simp, he, Nat.le_refl _⟩
      · exact next h
    · exact next h
theorem effs_sorted : ∀ (os : List Oper) (k0 m m' e e' : Nat), (effsOf os k0)[m]? = some e → (effsOf os k0)[m']? = some e' → m < m' → e < e'
  | [], _, _, _, _, _, h, _, _ => by simp [effsOf] at h
  | o :: os, k0, m, m', e, e', h, h', hlt => by
    unfold effsOf at h h'
    split at h
    · rename_i he
      rw [he] at h'
      simp only at h'
      cases m' with
      | zero => omega
      | succ m' =>
        rw [List.getElem?_cons_succ] at h'
        cases m with
        | zero =>
          simp at h; subst h
          have := effs_ge os (k0 + 1) e' (List.mem_of_getElem? h'); omega
        | succ m =>
          rw [List.getElem?_cons_succ] at h
          exact effs_sorted os (k0 + 1) m m' e e' h h' (by omega)
    · rename_i he
      rw [he] at h'
      exact effs_sorted os (k0 + 1) m m' e e' h h' hlt
theorem aRegion1_sound {P : Program} {D : Tab} (hD : TabOk P D) {L : List Oper} {N : Nat} {Qc : Exit → Act → World → Prop} {Q : List (Nat × AV) → List AO → Prop} {n0 : Nat} {c0 c : Cx} {T : List (Nat × AV)} {a : Act}
    (H : HR c) (hT : TR c T a.tmps) (E0 : ExtN n0 c0 c) (hd : a.defers = []) (hN : a.tmps.size = N) (h : aRegion1 P D c0.G N L T c.A Q)
    (hq : ∀ c' a' T', HR c' → TR c' T' a'.tmps → ExtN n0 c0 c' → a'.defers = [] → a'.tmps.size = N → Q T' c'.A → Qc .normal a' c'.w) : wpAny P .any L.toArray Qc L.length (Array.replicate L.length false) a c.w := by
  obtain ⟨X, hB, h⟩ := h
  have ok := drawOk hB
  obtain ⟨tr, Tf, Af, htr, hend⟩ := aDraw_tr L T c.A [] h
  rw [List.nil_append] at hend
  have hex : extras P D c0.G L tr (asL tr c.A) X ∧ Q Tf Af := by
    cases X with
    | nil => exact ⟨trivial, hend⟩
    | cons x X => exact hend
  clear hend h
  obtain ⟨hex, hQ⟩ := hex
  have hlen := tr_len htr
  obtain ⟨has, haf⟩ := tr_as htr 0
  have hat := fun (i : Nat) (o : Oper) (hi : L[i]? = some o) => tr_at htr hi
  have hlk := fun t => tr_lk htr t
  generalize hA0 : c.A = A0 at *
  -- what holds whenever some have come
  have key : ∀ (fuel : Nat) (listed : Array Bool) (c : Cx) (a : Act), listed.size = L.length → (List.range L.length).countP (fun i => !listed.getD i false) = fuel → HR c → ExtN n0 c0 c → a.defers = [] → a.tmps.size = N →
      (∀ t, Rel c (vAt tr t (lk T t) (fun j => listed.getD j false) tr.length) (a.tmps.getD t undef)) → (∀ (i : Nat) o, L[i]? = some o → listed.getD i false = true → ∀ e ∈ o.after.toList, bindsA e = true → listed.getD e.on false = true) →
      (∃ k, k ≤ (effsOf L 0).length ∧ (∀ (m e : Nat), (effsOf L 0)[m]? = some e → (listed.getD e false = true ↔ m < k)) ∧ (asL tr A0)[k]? = some c.A) → wpAny P .any L.toArray Qc fuel listed a c.w := by
    intro fuel
    induction fuel with
    | zero =>
      intro listed c a hsz hcnt H E hd hN hval hdown hk
      obtain ⟨k, hkle, hke, hkA⟩ := hk
      have hall : ∀ i, i < L.length → listed.getD i false = true := fun i hi => by
        have := List.countP_eq_zero.1 hcnt i (List.mem_range.2 hi)
        simpa using this
      refine ⟨?_, ?_⟩
      · cases hr : Region.ready .any L.toArray listed with
        | nil => rfl
        | cons i l =>
          have hi : i ∈ Region.ready .any L.toArray listed := by rw [hr]; exact List.mem_cons_self ..
          obtain ⟨h1, o, h2, _⟩ := mem_ready.1 hi
          have hlt : i < L.length := get_lt (by simpa using h2)
          have := getD_both h1
          rw [hall i hlt] at this; cases this
      · have hkE : k = (effsOf L 0).length := by
          rcases Nat.lt_or_ge k (effsOf L 0).length with hlt | hge
          · have he := List.getElem?_eq_getElem hlt
            obtain ⟨o, ho, _, _⟩ := effs_at L 0 _ (List.getElem_mem hlt)
            have := (hke k _ he).1 (hall _ (by have := get_lt ho; omega))
            omega
          · omega
        rw [hkE, haf] at hkA
        have hAf : c.A = Af := (Option.some.inj hkA).symm
        refine hq c a Tf H (fun t => ?_) E hd hN (by rw [hAf]; exact hQ)
        rw [(hlk t).2]
        have := hval t
        rwa [vAt_same (S' := fun _ => true) _ (fun j r hj _ _ => hall j (by omega))] at this
    | succ fuel ih =>
      intro listed c a hsz hcnt H E hd hN hval hdown hk
      obtain ⟨k, hkle, hke, hkA⟩ := hk
      have closed : ∀ i j, rch (amask L []) j i = true → listed.getD i false = true → listed.getD j false = true := by
        intro i
        induction i using Nat.strongRecOn with
        | _ i ihi =>
          intro j hr hl
          obtain ⟨o, ho, e, he, hb, hx⟩ := rch_step hr
          have hle := hdown i o ho hl e he hb
          rcases hx with rfl | hx
          · exact hle
          · exact ihi e.on (ok.back i o ho e he hb) j hx hle
      refine ⟨fun h0 => ?_, fun i hi => ?_⟩
      · -- some one is ready
        have hpos : 0 < (List.range L.length).countP (fun i => !listed.getD i false) := by omega
        obtain ⟨i, h1, h2⟩ := List.countP_pos_iff.1 hpos
        obtain ⟨m, ⟨m1, m2⟩, m3⟩ := least_of (p := fun i => i < L.length ∧ listed.getD i false = false) i ⟨List.mem_range.1 h1, by simpa using h2⟩
        exfalso
        have : m ∈ Region.ready .any L.toArray listed := by
          refine mem_ready.2 ⟨getD_in (by omega) m2, L[m], by simp [m1], fun e he hb => ?_⟩
          have hlt := ok.back m L[m] (List.getElem?_eq_getElem m1) e (by simpa using he) hb
          cases hl : listed.getD e.on false with
          | true => rfl
          | false => exact absurd ⟨by omega, hl⟩ (m3 e.on hlt)
        rw [h0] at this; cases this
      · obtain ⟨hun, o, ho, haft⟩ := mem_ready.1 hi
        have ho : L[i]? = some o := by simpa using ho
        have hil := get_lt ho
        have hun := getD_both hun
        have rclosed : ∀ j, rch (amask L []) j i = true → listed.getD j false = true := fun j hr => by
          obtain ⟨o', ho', e, he, hb, hx⟩ := rch_step hr
          rw [ho] at ho'; cases ho'
          have hle := haft e (by simpa using he) hb
          rcases hx with rfl | hx
          · exact hle
          · exact closed _ _ hx hle
        obtain ⟨r, hr, hro, hin, hrun, hpure⟩ := hat i o ho
        have htlk : ∀ t, t ∈ looksOf L o → Rel c (lk r.T t) (a.tmps.getD t undef) := fun t ht => by
          rw [(hlk t).1 i r hr]
          have := hval t
          rwa [vAt_cut (i := i) (fun j p hj hp hdst => ?_) tr.length (by omega) (fun j p h1 h2 hp hdst => ?_)] at this
          · obtain ⟨q, hq1, hq2⟩ : ∃ q, L[j]? = some q ∧ q = p.o := by
              have hjl : j < L.length := by have := get_lt hp; omega
              obtain ⟨r', hr', hro', _⟩ := hat j L[j] (List.getElem?_eq_getElem hjl)
              rw [hp] at hr'; cases hr'
              exact ⟨_, List.getElem?_eq_getElem hjl, hro'.symm⟩
            have := ok.data i j o q t ho hq1 ht (by rw [hq2]; exact hdst) (by omega)
            rw [if_pos hj] at this
            exact rclosed j this
          · by_cases hji : j = i
            · subst hji; exact hun
            · obtain ⟨q, hq1, hq2⟩ : ∃ q, L[j]? = some q ∧ q = p.o := by
                have hjl : j < L.length := by have := get_lt hp; omega
                obtain ⟨r', hr', hro', _⟩ := hat j L[j] (List.getElem?_eq_getElem hjl)
                rw [hp] at hr'; cases hr'
                exact ⟨_, List.getElem?_eq_getElem hjl, hro'.symm⟩
              have := ok.data i j o q t ho hq1 ht (by rw [hq2]; exact hdst) hji
              rw [if_neg (by omega)] at this
              cases hl : listed.getD j false with
              | false => rfl
              | true => rw [closed _ _ this hl] at hun; cases hun
        have tied : Tied L c r.T a o := by
          refine ⟨fun x hx => ev_of fun t ht => htlk t ?_, fun t want hg => htlk t ?_⟩
          · unfold looksOf
            exact List.mem_append_right _ (mem_tmps (by subst ht; simpa using hx))
          · unfold looksOf; rw [hg]; exact List.mem_append_left _ (List.mem_cons_self ..)
        -- the run at the memory that there is
        have step : ∃ A1 k', agRun P D c0.G L c.A r.T o (fun v' A' => v' = r.v ∧ A' = A1) ∧ k' ≤ (effsOf L 0).length ∧ (∀ (m e : Nat), (effsOf L 0)[m]? = some e → ((decide (e = i) || listed.getD e false) = true ↔ m < k')) ∧ (asL tr A0)[k']? = some A1 := by
          obtain ⟨g1, g2⟩ := has i r hr
          rw [hro] at g1 g2
          cases he : isEff o.op with
          | true =>
            obtain ⟨m, m1, m2, m3⟩ := g1 he
            rw [Nat.zero_add] at m1
            have hkm : k = m := by
              rcases Nat.lt_or_ge k m with hlt | hge
              · have hlt' : k < (effsOf L 0).length := by have := get_lt m1; omega
                have hek := List.getElem?_eq_getElem hlt'
                have hs := effs_sorted L 0 k m _ _ hek m1 hlt
                have := ok.chain i o ho he _ (List.getElem_mem hlt') hs
                have := (hke k _ hek).1 (rclosed _ this)
                omega
              · rcases Nat.lt_or_ge m k with h1 | h1
                · have := (hke m i m1).2 h1
                  rw [hun] at this; cases this
                · omega
            subst hkm
            rw [m2] at hkA
            have hcA : c.A = r.A := (Option.some.inj hkA).symm
            refine ⟨r.A', k + 1, by rw [hcA]; exact hrun, get_lt m1, fun m' e he' => ?_, m3⟩
            simp only [Bool.or_eq_true, decide_eq_true_eq]
            constructor
            · rintro (rfl | hl)
              · rcases Nat.lt_trichotomy m' k with h | h | h
                · omega
                · omega
                · have := effs_sorted L 0 k m' _ _ m1 he' h; omega
              · have := (hke m' e he').1 hl; omega
            · intro h
              by_cases hmk : m' = k
              · subst hmk; rw [m1] at he'; cases he'; exact .inl rfl
              · exact .inr ((hke m' e he').2 (by omega))
          | false =>
            have hne : ∀ (m e : Nat), (effsOf L 0)[m]? = some e → e ≠ i := fun m e he' hei => by
              obtain ⟨p, hp, hpe, _⟩ := effs_at L 0 e (List.mem_of_getElem? he')
              rw [Nat.sub_zero, hei, ho] at hp; cases hp
              rw [he] at hpe; cases hpe
            have hok : okK (amask L []) i k (effsOf L 0) 0 = true := okK_mk _ 0 fun m e hme => by
              refine ⟨fun h => ?_, fun h => ?_⟩
              · have := (hke m e hme).1 (rclosed e h); omega
              · rcases Nat.lt_or_ge m k with h1 | h1
                · have := closed e i h ((hke m e hme).2 h1)
                  rw [hun] at this; cases this
                · omega
            have hrest : ∀ (m e : Nat), (effsOf L 0)[m]? = some e → ((decide (e = i) || listed.getD e false) = true ↔ m < k) := fun m e hme => by
              rw [← hke m e hme]
              simp [hne m e hme]
            rcases ok.pur i o ho he k hkle hok with h | h
            · have g2 := g2 he
              rw [Nat.zero_add, ← h] at g2
              rw [g2] at hkA
              have hcA : c.A = r.A := (Option.some.inj hkA).symm
              refine ⟨r.A', k, by rw [hcA]; exact hrun, hkle, hrest, ?_⟩
              rw [hpure he]; exact g2
            · obtain ⟨r', A, e1, e2, e3⟩ := extras_at X hex h
              rw [hr] at e1; cases e1
              rw [e2] at hkA
              have hcA : A = c.A := Option.some.inj hkA
              rw [hcA] at e3 e2
              rw [hro] at e3
              exact ⟨c.A, k, e3, hkle, hrest, e2⟩
        obtain ⟨A1, k', hrun', hk1, hk2, hk3⟩ := step
        rw [← E.G] at hrun'
        refine agRun_sound hD H ho tied hrun' fun c' u rv E' H' hrel hK => ?_
        obtain ⟨rfl, hcA⟩ := hK
        have hset : ∀ j, (listed.setIfInBounds i true).getD j false = (decide (j = i) || listed.getD j false) := fun j => by
          by_cases hj : j = i
          · subst hj
            have : j < listed.size := by omega
            simp [Array.getD_eq_getD_getElem?, this]
          · rw [getD_set_ne false (fun e => hj e.symm)]; simp [hj]
        have hputs : (a.put o.dst u).tmps.size = N ∧ (a.put o.dst u).defers = a.defers ∧ ∀ t, (a.put o.dst u).tmps.getD t undef = if o.dst = some t then u else a.tmps.getD t undef := by
          cases hdst : o.dst with
          | none => exact ⟨hN, rfl, fun t => by rw [if_neg (by simp)]; rfl⟩
          | some d =>
            rw [hdst] at hin
            have hdN := blt_of hin
            refine ⟨by unfold Act.put; simp [hN], rfl, fun t => ?_⟩
            unfold Act.put
            by_cases hdt : d = t
            · subst hdt; simp [Array.getD_eq_getD_getElem?, hN, hdN]
            · simp [Array.getD_eq_getD_getElem?, hdt]
        refine ih (listed.setIfInBounds i true) c' (a.put o.dst u) (by simpa using hsz) ?_ H' (E.step E') (hputs.2.1.trans hd) hputs.1 (fun t => ?_) (fun j p hj hl e he hb => ?_) ⟨k', hk1, fun m e he => by rw [hset]; exact hk2 m e he, by rw [hk3, hcA]⟩
        · have := countP_one (n := L.length) (i := i) (p := fun i => !listed.getD i false) (q := fun j => !(listed.setIfInBounds i true).getD j false) hil (by simp only [hun]; rfl) (by simp only [hset]; simp) (fun j hj => by simp only [hset]; simp [hj])
          omega
        · have e1 : vAt tr t (lk T t) (fun j => (listed.setIfInBounds i true).getD j false) tr.length = vAt tr t (lk T t) (fun j => decide (j = i) || listed.getD j false) tr.length := vAt_same _ fun j _ _ _ _ => hset j
          rw [e1, vAt_add hr tr.length (by omega) (fun j p hj hp hpd hrd hl => ?_), hputs.2.2 t, hro]
          · by_cases hdt : o.dst = some t
            · rw [if_pos hdt, if_pos hdt]; exact hrel
            · rw [if_neg hdt, if_neg hdt]; exact (hval t).ext E'
          · rcases Nat.lt_trichotomy j i with h | h | h
            · exact h
            · subst h
              have hl : listed.getD j false = true := hl
              rw [hun] at hl; cases hl
            · have hjl : j < L.length := by omega
              obtain ⟨r', hr', hro', _⟩ := hat j L[j] (List.getElem?_eq_getElem hjl)
              rw [hp] at hr'; cases hr'
              rw [hro] at hrd
              rw [hro'] at hpd
              have := ok.same i j o L[j] t ho (List.getElem?_eq_getElem hjl) hrd hpd h
              rw [closed _ _ this hl] at hun; cases hun
        · rw [hset] at hl ⊢
          by_cases hji : j = i
          · subst hji
            rw [ho] at hj; cases hj
            rw [haft e (by simpa using he) hb]; simp
          · have hl : listed.getD j false = true := by simpa [hji] using hl
            rw [hdown j p hj hl e he hb]; simp
  have hcnt0 : (List.range L.length).countP (fun i => !(Array.replicate L.length false).getD i false) = L.length := by
    rw [List.countP_eq_length.2 (fun i _ => by rw [getD_replicate_false]; rfl)]; simp
  refine key L.length (Array.replicate L.length false) c a (by simp) hcnt0 H E0 hd hN (fun t => ?_) (fun i o _ hl => by rw [getD_replicate_false] at hl; cases hl) ⟨0, Nat.zero_le _, fun m e _ => by rw [getD_replicate_false]; simp, by rw [asL_head, hA0]⟩
  have : vAt tr t (lk T t) (fun j => (Array.replicate L.length false).getD j false) tr.length = lk T t := by
    have := vAt_cut (tr := tr) (t := t) (cur := lk T t) (S := fun j => (Array.replicate L.length false).getD j false) (i := 0) (fun j r h => by omega) tr.length (Nat.zero_le _) (fun j r _ _ _ _ => getD_replicate_false _ _)
    rw [this]; rfl
  rw [this]; exact hT t
end Go.Ab
