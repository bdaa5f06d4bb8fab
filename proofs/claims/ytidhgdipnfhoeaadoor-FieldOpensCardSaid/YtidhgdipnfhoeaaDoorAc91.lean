/-
  Regions whose effects have no order of their own.
-/
import Derived.Test.YtidhgdipnfhoeaaDoorAc9
namespace Go.Ab
open Go
theorem runP_mono {x : AR} {K K' : AV → Prop} (h : runP x K) (hk : ∀ v, K v → K' v) : runP x K' := by
  obtain ⟨C, v⟩ := x
  cases C with
  | none => unfold runP at *; simp only [forceV_eq] at *; exact hk _ h
  | some C => unfold runP at *; simp only [forceV_eq] at *; exact ⟨h.1, hk _ h.2⟩
theorem aRun_mono {P : Program} {D : Tab} {G : List (Nat × Value)} {A : List AO} {T : List (Nat × AV)} {op : Op} {K K' : AV → List AO → Prop} (h : aRun P D G A T op K) (hk : ∀ v A, K v A → K' v A) : aRun P D G A T op K' := by
  unfold aRun at *
  split
  · rename_i e he
    rw [he] at h
    simp only at h
    obtain ⟨C, v, A'⟩ := e
    cases C with
    | none => unfold runE at *; simp only [forceV_eq, forceA_eq] at *; exact hk _ _ h
    | some C => unfold runE at *; simp only [forceV_eq, forceA_eq] at *; exact ⟨h.1, hk _ _ h.2⟩
  · rename_i f args he
    rw [he] at h
    simp only [forceV_eq, forceA_eq] at *
    exact ACall.mono h hk
  · rename_i ty m args he
    rw [he] at h
    simp only [forceV_eq, forceA_eq] at *
    obtain ⟨f, h1, h2⟩ := h
    exact ⟨f, h1, ACall.mono h2 hk⟩
  · rename_i he
    rw [he] at h
    exact runP_mono h fun v => hk v A
  · rename_i he
    rw [he] at h
    exact h.elim
theorem agRun_mono {P : Program} {D : Tab} {G : List (Nat × Value)} {L : List Oper} {A : List AO} {T : List (Nat × AV)} {o : Oper} {K K' : AV → List AO → Prop} (h : agRun P D G L A T o K) (hk : ∀ v A, K v A → K' v A) : agRun P D G L A T o K' := by
  unfold agRun at *
  split
  · rename_i hg
    rw [hg] at h
    exact aRun_mono h hk
  · rename_i g hg
    rw [hg] at h
    simp only at h
    split
    · rename_i hq; rw [hq] at h; exact h.elim
    · rename_i t want hq
      rw [hq] at h
      simp only at h
      split
      · rename_i hb; rw [hb] at h; exact h.elim
      · rename_i b hb
        rw [hb] at h
        simp only at h
        split
        · rename_i hp
          rw [hp] at h
          exact runP_mono h fun v => hk v A
        · rename_i hp
          rw [hp] at h
          simp only at h
          refine ⟨fun hb => ?_, fun hb => hk _ _ (h.2 hb)⟩
          have h1 := h.1 hb
          generalize stripCs T o.op.operands.toList = C at *
          cases C with
          | none => exact aRun_mono h1 hk
          | some C => exact ⟨h1.1, aRun_mono h1.2 hk⟩
theorem tr_len2 {N : Nat} : ∀ {os : List Oper} {T : List (Nat × AV)} {A : List AO} {tr : List Rc} {Tf : List (Nat × AV)} {Af : List AO}, TrOk2 N os T A tr Tf Af → tr.length = os.length
  | [], _, _, _, _, _, h => by obtain ⟨rfl, _⟩ := h; rfl
  | o :: os, _, _, _, _, _, h => by obtain ⟨v, A1, tr', rfl, _, h⟩ := h; simp [tr_len2 h]
theorem tr_at2 {N : Nat} : ∀ {os : List Oper} {T : List (Nat × AV)} {A : List AO} {tr : List Rc} {Tf : List (Nat × AV)} {Af : List AO}, TrOk2 N os T A tr Tf Af → ∀ {i : Nat} {o : Oper}, os[i]? = some o →
    ∃ r, tr[i]? = some r ∧ r.o = o ∧ inB N o.dst = true
  | [], _, _, _, _, _, _, i, o, h => by simp at h
  | p :: os, _, _, _, _, _, h, i, o, hi => by
    obtain ⟨v, A1, tr', rfl, h1, h4⟩ := h
    cases i with
    | zero => simp at hi; subst hi; exact ⟨_, rfl, rfl, h1⟩
    | succ i => simpa using tr_at2 h4 (by simpa using hi)
theorem tr_lk2 {N : Nat} : ∀ {os : List Oper} {T : List (Nat × AV)} {A : List AO} {tr : List Rc} {Tf : List (Nat × AV)} {Af : List AO}, TrOk2 N os T A tr Tf Af → ∀ t, (∀ i r, tr[i]? = some r → lk r.T t = vAt tr t (lk T t) (fun _ => true) i) ∧ lk Tf t = vAt tr t (lk T t) (fun _ => true) tr.length
  | [], _, _, _, _, _, h, t => by
    obtain ⟨rfl, rfl, _⟩ := h
    exact ⟨fun i r h => by simp at h, rfl⟩
  | o :: os, T, A, _, Tf, Af, h, t => by
    obtain ⟨v, A1, tr', rfl, h1, h4⟩ := h
    obtain ⟨k1, k2⟩ := tr_lk2 h4 t
    refine ⟨fun i r hi => ?_, ?_⟩
    · cases i with
      | zero => simp at hi; subst hi; rfl
      | succ i =>
        have hi : tr'[i]? = some r := by simpa using hi
        rw [vAt_cons _ _ _ _ _ (by have := get_lt hi; omega), k1 i r hi, lk_upd]
    · rw [List.length_cons, vAt_cons _ _ _ _ _ (Nat.le_refl _), k2, lk_upd]
def Cx.nilRows (c : Cx) : Nat → Cx
  | 0 => c
  | n + 1 => (c.nilRows n).nilRow .bool
theorem nilRows_sound {c : Cx} (H : HR c) : ∀ n, Ext c (c.nilRows n) ∧ HR (c.nilRows n) ∧ (c.nilRows n).w = c.w ∧ (c.nilRows n).A = c.A ++ Ab.nilRows n
  | 0 => ⟨Ext.refl c, H, rfl, (List.append_nil _).symm⟩
  | n + 1 => by
    obtain ⟨h1, h2, h3, h4⟩ := nilRows_sound H n
    obtain ⟨k1, k2, _⟩ := nilRow_sound h2 .bool
    refine ⟨h1.trans k1, k2, h3, ?_⟩
    show (c.nilRows n).A ++ [AO.row .bool []] = c.A ++ (Ab.nilRows n ++ [AO.row .bool []])
    rw [h4, List.append_assoc]
structure DrawOk2 (L : List Oper) : Prop where
  back : ∀ (i : Nat) o, L[i]? = some o → ∀ e ∈ o.after.toList, bindsA e = true → e.on < i
  data : ∀ (i j : Nat) o p t, L[i]? = some o → L[j]? = some p → t ∈ looksOf L o → p.dst = some t → j ≠ i → if j < i then rch (amask L []) j i = true else rch (amask L []) i j = true
  same : ∀ (i j : Nat) o p d, L[i]? = some o → L[j]? = some p → o.dst = some d → p.dst = some d → i < j → rch (amask L []) i j = true
  eff : ∀ (i : Nat) o, L[i]? = some o → isEff o.op = true → i ∈ effsOf L 0
theorem drawOk2 {L : List Oper} (h : drawM2 L (amask L []) (effsOf L 0) = true) : DrawOk2 L := by
  unfold drawM2 at h
  have H : ∀ (i : Nat) o, L[i]? = some o → _ := fun i o hi => all_range h (get_lt hi)
  refine ⟨fun i o hi e he hb => ?_, fun i j o p t hi hj ht hd hne => ?_, fun i j o p d hi hj h1 h2 hlt => ?_, fun i o hi he => ?_⟩
  all_goals (have h0 := H i o hi; simp only [hi, Bool.and_eq_true] at h0; obtain ⟨⟨ha, hb'⟩, hc⟩ := h0)
  · have := List.all_eq_true.1 ha e he
    rw [hb] at this
    exact blt_of (by simpa using this)
  · have h1 := all_range hb' (get_lt hj)
    simp only [hj, Bool.and_eq_true] at h1
    have h2 := List.all_eq_true.1 h1.1 t ht
    rw [isDst_of hd] at h2
    simp only [Bool.not_true, Bool.false_or, Bool.or_eq_true] at h2
    rcases h2 with h2 | h2
    · exact absurd (beq_eq h2) hne
    · split at h2
      · rename_i hlt; rw [if_pos hlt]; exact h2
      · rename_i hlt; rw [if_neg hlt]; exact h2
  · have h3 := all_range hb' (get_lt hj)
    simp only [hj, Bool.and_eq_true, h1] at h3
    have h4 := h3.2
    rw [isDst_of h2] at h4
    have : Nat.blt i j = true := Nat.ble_eq_true_of_le hlt
    rw [this] at h4
    simpa using h4
  · rw [if_pos he] at hc
    simpa using hc
theorem stOps_at {P : Program} {D : Tab} {G : List (Nat × Value)} {L : List Oper} {M E : List Nat} {S : List (Nat × List AO)} {s : Nat} {A : List AO} : ∀ (tr : List Rc) {k0 : Nat}, stOps P D G L M E S s A tr k0 → ∀ (k : Nat) (i : Nat) (r : Rc), tr[i]? = some r → k = k0 →
    match okS M E (k + i) s with
    | false => True
    | true => match isEff r.o.op with
      | true => (match s.testBit (k + i) with
        | true => True
        | false => match lkS (s ||| (1 <<< (k + i))) S with
          | some A1 => agRun P D G L A r.T r.o fun v A' => View A.length v A' r.v A1
          | none => False)
      | false => agRun P D G L A r.T r.o fun v A' => v = r.v ∧ A' = A
  | [], _, _, _, _, _, h, _ => by simp at h
  | p :: tr, k0, h, k, i, r, hi, hk => by
    subst hk
    unfold stOps at h
    cases i with
    | zero => simp at hi; subst hi; exact h.1
    | succ i =>
      have := stOps_at tr h.2 (k + 1) i r (by simpa using hi) rfl
      rw [show k + 1 + i = k + (i + 1) by omega] at this
      exact this
theorem stAll_at {P : Program} {D : Tab} {G : List (Nat × Value)} {L : List Oper} {M E : List Nat} {S : List (Nat × List AO)} {tr : List Rc} {s : Nat} {A : List AO} : ∀ {S' : List (Nat × List AO)}, stAll P D G L M E S tr S' → lkS s S' = some A → stOps P D G L M E S s A tr 0
  | [], _, h => by cases h
  | (s', A') :: S', h, hl => by
    unfold lkS at hl
    split at hl
    · rename_i hb
      cases hl
      rw [← beq_eq hb]; exact h.1
    · exact stAll_at h.2 hl
theorem fullM_bit (j : Nat) : ∀ E : List Nat, (fullM E).testBit j = true ↔ j ∈ E
  | [] => by simp [fullM]
  | e :: E => by
    unfold fullM
    rw [Nat.testBit_or, Bool.or_eq_true, fullM_bit j E, Nat.one_shiftLeft, Nat.testBit_two_pow]
    simp [eq_comm]
theorem aRegion2_sound {P : Program} {D : Tab} (hD : TabOk P D) {L : List Oper} {N : Nat} {Qc : Exit → Act → World → Prop} {Q : List (Nat × AV) → List AO → Prop} {n0 : Nat} {c0 c : Cx} {T : List (Nat × AV)} {a : Act}
    (H : HR c) (hT : TR c T a.tmps) (E0 : ExtN n0 c0 c) (hd : a.defers = []) (hN : a.tmps.size = N) (h : aRegion2 P D c0.G N L T c.A Q)
    (hq : ∀ c' a' T', HR c' → TR c' T' a'.tmps → ExtN n0 c0 c' → a'.defers = [] → a'.tmps.size = N → Q T' c'.A → Qc .normal a' c'.w) : wpAny P .any L.toArray Qc L.length (Array.replicate L.length false) a c.w := by
  obtain ⟨hB, h⟩ := h
  have ok := drawOk2 hB
  obtain ⟨n, h⟩ := h
  obtain ⟨n1, n2, n3, n4⟩ := nilRows_sound H n
  rw [← n3]
  rw [← n4] at h
  have hT := hT.ext n1
  have E0 := E0.step n1
  clear n1 n3 n4
  generalize c.nilRows n = c at *
  have H := n2
  clear n2
  obtain ⟨tr, Tf, Af, htr, hend⟩ := aDraw2_tr L T c.A [] h
  rw [List.nil_append] at hend
  clear h
  obtain ⟨S, hS0, hSf, hst, hQ⟩ := hend
  have hlen := tr_len2 htr
  have hat := fun (i : Nat) (o : Oper) (hi : L[i]? = some o) => tr_at2 htr hi
  have hlk := fun t => tr_lk2 htr t
  have hS : ∀ s A, lkS s S = some A → stOps P D c0.G L (amask L []) (effsOf L 0) S s A tr 0 := fun s A h => stAll_at hst h
  -- what holds whenever some have come
  have key : ∀ (fuel : Nat) (listed : Array Bool) (c : Cx) (a : Act), listed.size = L.length → (List.range L.length).countP (fun i => !listed.getD i false) = fuel → HR c → ExtN n0 c0 c → a.defers = [] → a.tmps.size = N →
      (∀ t, Rel c (vAt tr t (lk T t) (fun j => listed.getD j false) tr.length) (a.tmps.getD t undef)) → (∀ (i : Nat) o, L[i]? = some o → listed.getD i false = true → ∀ e ∈ o.after.toList, bindsA e = true → listed.getD e.on false = true) →
      (∃ s, (∀ j, s.testBit j = true ↔ j ∈ effsOf L 0 ∧ listed.getD j false = true) ∧ lkS s S = some c.A) → wpAny P .any L.toArray Qc fuel listed a c.w := by
    intro fuel
    induction fuel with
    | zero =>
      intro listed c a hsz hcnt H E hd hN hval hdown hk
      obtain ⟨s, hs, hkA⟩ := hk
      have hall : ∀ i, i < L.length → listed.getD i false = true := fun i hi => by
        have := List.countP_eq_zero.1 hcnt i (List.mem_range.2 hi)
        simpa using this
      refine ⟨?_, ?_⟩
      · cases hr : Region.ready .any L.toArray listed with
        | nil => rfl
        | cons i l =>
          have hi : i ∈ Region.ready .any L.toArray listed := by rw [hr]; exact List.mem_cons_self ..
          obtain ⟨h1, o, h2, _⟩ := mem_ready.1 hi
          have hlt : i < L.length := get_lt (by simpa using h2)
          have := getD_both h1
          rw [hall i hlt] at this; cases this
      · have hfull : s = fullM (effsOf L 0) := by
          refine Nat.eq_of_testBit_eq fun j => ?_
          rw [Bool.eq_iff_iff, hs j, fullM_bit]
          refine ⟨fun h => h.1, fun h => ⟨h, ?_⟩⟩
          obtain ⟨o, ho, _, _⟩ := effs_at L 0 j h
          exact hall j (by have := get_lt ho; omega)
        rw [hfull, hSf] at hkA
        have hAf : c.A = Af := (Option.some.inj hkA).symm
        refine hq c a Tf H (fun t => ?_) E hd hN (by rw [hAf]; exact hQ)
        rw [(hlk t).2]
        have := hval t
        rwa [vAt_same (S' := fun _ => true) _ (fun j r hj _ _ => hall j (by omega))] at this
    | succ fuel ih =>
      intro listed c a hsz hcnt H E hd hN hval hdown hk
      obtain ⟨s, hs, hkA⟩ := hk
      have closed : ∀ i j, rch (amask L []) j i = true → listed.getD i false = true → listed.getD j false = true := by
        intro i
        induction i using Nat.strongRecOn with
        | _ i ihi =>
          intro j hr hl
          obtain ⟨o, ho, e, he, hb, hx⟩ := rch_step hr
          have hle := hdown i o ho hl e he hb
          rcases hx with rfl | hx
          · exact hle
          · exact ihi e.on (ok.back i o ho e he hb) j hx hle
      refine ⟨fun h0 => ?_, fun i hi => ?_⟩
      · -- some one is ready
        have hpos : 0 < (List.range L.length).countP (fun i => !listed.getD i false) := by omega
        obtain ⟨i, h1, h2⟩ := List.countP_pos_iff.1 hpos
        obtain ⟨m, ⟨m1, m2⟩, m3⟩ := least_of (p := fun i => i < L.length ∧ listed.getD i false = false) i ⟨List.mem_range.1 h1, by simpa using h2⟩
        exfalso
        have : m ∈ Region.ready .any L.toArray listed := by
          refine mem_ready.2 ⟨getD_in (by omega) m2, L[m], by simp [m1], fun e he hb => ?_⟩
          have hlt := ok.back m L[m] (List.getElem?_eq_getElem m1) e (by simpa using he) hb
          cases hl : listed.getD e.on false with
          | true => rfl
          | false => exact absurd ⟨by omega, hl⟩ (m3 e.on hlt)
        rw [h0] at this; cases this
      · obtain ⟨hun, o, ho, haft⟩ := mem_ready.1 hi
        have ho : L[i]? = some o := by simpa using ho
        have hil := get_lt ho
        have hun := getD_both hun
        have rclosed : ∀ j, rch (amask L []) j i = true → listed.getD j false = true := fun j hr => by
          obtain ⟨o', ho', e, he, hb, hx⟩ := rch_step hr
          rw [ho] at ho'; cases ho'
          have hle := haft e (by simpa using he) hb
          rcases hx with rfl | hx
          · exact hle
          · exact closed _ _ hx hle
        obtain ⟨r, hr, hro, hin⟩ := hat i o ho
        have htlk : ∀ t, t ∈ looksOf L o → Rel c (lk r.T t) (a.tmps.getD t undef) := fun t ht => by
          rw [(hlk t).1 i r hr]
          have := hval t
          rwa [vAt_cut (i := i) (fun j p hj hp hdst => ?_) tr.length (by omega) (fun j p h1 h2 hp hdst => ?_)] at this
          · obtain ⟨q, hq1, hq2⟩ : ∃ q, L[j]? = some q ∧ q = p.o := by
              have hjl : j < L.length := by have := get_lt hp; omega
              obtain ⟨r', hr', hro', _⟩ := hat j L[j] (List.getElem?_eq_getElem hjl)
              rw [hp] at hr'; cases hr'
              exact ⟨_, List.getElem?_eq_getElem hjl, hro'.symm⟩
            have := ok.data i j o q t ho hq1 ht (by rw [hq2]; exact hdst) (by omega)
            rw [if_pos hj] at this
            exact rclosed j this
          · by_cases hji : j = i
            · subst hji; exact hun
            · obtain ⟨q, hq1, hq2⟩ : ∃ q, L[j]? = some q ∧ q = p.o := by
                have hjl : j < L.length := by have := get_lt hp; omega
                obtain ⟨r', hr', hro', _⟩ := hat j L[j] (List.getElem?_eq_getElem hjl)
                rw [hp] at hr'; cases hr'
                exact ⟨_, List.getElem?_eq_getElem hjl, hro'.symm⟩
              have := ok.data i j o q t ho hq1 ht (by rw [hq2]; exact hdst) hji
              rw [if_neg (by omega)] at this
              cases hl : listed.getD j false with
              | false => rfl
              | true => rw [closed _ _ this hl] at hun; cases hun
        have tied : Tied L c r.T a o := by
          refine ⟨fun x hx => ev_of fun t ht => htlk t ?_, fun t want hg => htlk t ?_⟩
          · unfold looksOf
            exact List.mem_append_right _ (mem_tmps (by subst ht; simpa using hx))
          · unfold looksOf; rw [hg]; exact List.mem_append_left _ (List.mem_cons_self ..)
        -- the run at the memory that there is
        have hop := stOps_at tr (hS s c.A hkA) 0 i r hr rfl
        rw [Nat.zero_add] at hop
        have hokS : okS (amask L []) (effsOf L 0) i s = true := by
          unfold okS
          rw [List.all_eq_true]
          intro e he
          simp only [Bool.and_eq_true, Bool.or_eq_true, Bool.not_eq_true']
          constructor
          · cases h1 : rch (amask L []) e i with
            | false => exact .inl rfl
            | true => exact .inr ((hs e).2 ⟨he, rclosed e h1⟩)
          · cases h1 : rch (amask L []) i e with
            | false => exact .inl rfl
            | true =>
              refine .inr ?_
              cases h2 : s.testBit e with
              | false => rfl
              | true =>
                have := closed e i h1 ((hs e).1 h2).2
                rw [hun] at this; cases this
        have hnb : s.testBit i = false := by
          cases h2 : s.testBit i with
          | false => rfl
          | true => have := ((hs i).1 h2).2; rw [hun] at this; cases this
        rw [hokS, hro] at hop
        have step : ∃ A1 s', agRun P D c0.G L c.A r.T o (fun v' A' => (v' = r.v ∧ A' = A1) ∨ View c.A.length v' A' r.v A1) ∧ (∀ j, s'.testBit j = true ↔ j ∈ effsOf L 0 ∧ (decide (j = i) || listed.getD j false) = true) ∧ lkS s' S = some A1 := by
          cases he : isEff o.op with
          | true =>
            rw [he, hnb] at hop
            cases hl : lkS (s ||| (1 <<< i)) S with
            | none => rw [hl] at hop; exact hop.elim
            | some A1 =>
              rw [hl] at hop
              refine ⟨A1, _, agRun_mono hop (fun v' A' h => .inr h), fun j => ?_, hl⟩
              have hiE : i ∈ effsOf L 0 := ok.eff i o ho he
              rw [Nat.testBit_or, Nat.one_shiftLeft, Nat.testBit_two_pow, Bool.or_eq_true, hs j]
              simp only [decide_eq_true_eq, Bool.or_eq_true]
              constructor
              · rintro (⟨h1, h2⟩ | h1)
                · exact ⟨h1, .inr h2⟩
                · exact ⟨h1 ▸ hiE, .inl h1.symm⟩
              · rintro ⟨h1, h2 | h2⟩
                · exact .inr h2.symm
                · exact .inl ⟨h1, h2⟩
          | false =>
            rw [he] at hop
            refine ⟨c.A, s, agRun_mono hop (fun v' A' h => .inl h), fun j => ?_, hkA⟩
            have hne : j ∈ effsOf L 0 → j ≠ i := fun hj hji => by
              obtain ⟨p, hp, hpe, _⟩ := effs_at L 0 j hj
              rw [Nat.sub_zero, hji, ho] at hp; cases hp
              rw [he] at hpe; cases hpe
            rw [hs j]
            constructor
            · rintro ⟨h1, h2⟩; exact ⟨h1, by simp [h2]⟩
            · rintro ⟨h1, h2⟩; exact ⟨h1, by simpa [hne h1] using h2⟩
        obtain ⟨A1, s', hrun', hk1, hk2⟩ := step
        rw [← E.G] at hrun'
        refine agRun_sound hD H ho tied hrun' fun c1 u rv E1 H1 hrel1 hK => ?_
        have seen : ∃ c' : Cx, c'.w = c1.w ∧ Ext c c' ∧ HR c' ∧ Rel c' r.v u ∧ c'.A = A1 := by
          rcases hK with ⟨rfl, hA⟩ | ⟨p, g1, g2, g3, g4⟩
          · exact ⟨c1, rfl, E1, H1, hrel1, hA⟩
          · have R := renOk_view g1 g2
            obtain ⟨e1, e2⟩ := ren_sound H1 R
            have e3 := E1.toN.trans e1
            refine ⟨c1.ren (nameOf p) A1, rfl, ⟨e3.le, e3.X, e3.G, e3.far, e3.st⟩, e2, ?_, rfl⟩
            exact ren_rel R r.v u g4 (by rw [← g3]; exact hrel1)
        obtain ⟨c', hw', E', H', hrel, hcA⟩ := seen
        rw [← hw']
        have hset : ∀ j, (listed.setIfInBounds i true).getD j false = (decide (j = i) || listed.getD j false) := fun j => by
          by_cases hj : j = i
          · subst hj
            have : j < listed.size := by omega
            simp [Array.getD_eq_getD_getElem?, this]
          · rw [getD_set_ne false (fun e => hj e.symm)]; simp [hj]
        have hputs : (a.put o.dst u).tmps.size = N ∧ (a.put o.dst u).defers = a.defers ∧ ∀ t, (a.put o.dst u).tmps.getD t undef = if o.dst = some t then u else a.tmps.getD t undef := by
          cases hdst : o.dst with
          | none => exact ⟨hN, rfl, fun t => by rw [if_neg (by simp)]; rfl⟩
          | some d =>
            rw [hdst] at hin
            have hdN := blt_of hin
            refine ⟨by unfold Act.put; simp [hN], rfl, fun t => ?_⟩
            unfold Act.put
            by_cases hdt : d = t
            · subst hdt; simp [Array.getD_eq_getD_getElem?, hN, hdN]
            · simp [Array.getD_eq_getD_getElem?, hdt]
        refine ih (listed.setIfInBounds i true) c' (a.put o.dst u) (by simpa using hsz) ?_ H' (E.step E') (hputs.2.1.trans hd) hputs.1 (fun t => ?_) (fun j p hj hl e he hb => ?_) ⟨s', fun j => by rw [hset]; exact hk1 j, by rw [hk2, hcA]⟩
        · have := countP_one (n := L.length) (i := i) (p := fun i => !listed.getD i false) (q := fun j => !(listed.setIfInBounds i true).getD j false) hil (by simp only [hun]; rfl) (by simp only [hset]; simp) (fun j hj => by simp only [hset]; simp [hj])
          omega
        · have e1 : vAt tr t (lk T t) (fun j => (listed.setIfInBounds i true).getD j false) tr.length = vAt tr t (lk T t) (fun j => decide (j = i) || listed.getD j false) tr.length := vAt_same _ fun j _ _ _ _ => hset j
          rw [e1, vAt_add hr tr.length (by omega) (fun j p hj hp hpd hrd hl => ?_), hputs.2.2 t, hro]
          · by_cases hdt : o.dst = some t
            · rw [if_pos hdt, if_pos hdt]; exact hrel
            · rw [if_neg hdt, if_neg hdt]; exact (hval t).ext E'
          · rcases Nat.lt_trichotomy j i with h | h | h
            · exact h
            · subst h
              have hl : listed.getD j false = true := hl
              rw [hun] at hl; cases hl
            · have hjl : j < L.length := by omega
              obtain ⟨r', hr', hro', _⟩ := hat j L[j] (List.getElem?_eq_getElem hjl)
              rw [hp] at hr'; cases hr'
              rw [hro] at hrd
              rw [hro'] at hpd
              have := ok.same i j o L[j] t ho (List.getElem?_eq_getElem hjl) hrd hpd h
              rw [closed _ _ this hl] at hun; cases hun
        · rw [hset] at hl ⊢
          by_cases hji : j = i
          · subst hji
            rw [ho] at hj; cases hj
            rw [haft e (by simpa using he) hb]; simp
          · have hl : listed.getD j false = true := by simpa [hji] using hl
            rw [hdown j p hj hl e he hb]; simp
  have hcnt0 : (List.range L.length).countP (fun i => !(Array.replicate L.length false).getD i false) = L.length := by
    rw [List.countP_eq_length.2 (fun i _ => by rw [getD_replicate_false]; rfl)]; simp
  refine key L.length (Array.replicate L.length false) c a (by simp) hcnt0 H E0 hd hN (fun t => ?_) (fun i o _ hl => by rw [getD_replicate_false] at hl; cases hl) ⟨0, fun j => by rw [getD_replicate_false]; simp, hS0⟩
  have : vAt tr t (lk T t) (fun j => (Array.replicate L.length false).getD j false) tr.length = lk T t := by
    have := vAt_cut (tr := tr) (t := t) (cur := lk T t) (S := fun j => (Array.replicate L.length false).getD j false) (i := 0) (fun j r h => by omega) tr.length (Nat.zero_le _) (fun j r _ _ _ _ => getD_replicate_false _ _)
    rw [this]; rfl
  rw [this]; exact hT t
theorem aRegion_sound {P : Program} {D : Tab} (hD : TabOk P D) {L : List Oper} {N : Nat} {Qc : Exit → Act → World → Prop} {Q : List (Nat × AV) → List AO → Prop} {n0 : Nat} {c0 c : Cx} {T : List (Nat × AV)} {a : Act}
    (H : HR c) (hT : TR c T a.tmps) (E0 : ExtN n0 c0 c) (hd : a.defers = []) (hN : a.tmps.size = N) (h : aRegion P D c0.G N L T c.A Q)
    (hq : ∀ c' a' T', HR c' → TR c' T' a'.tmps → ExtN n0 c0 c' → a'.defers = [] → a'.tmps.size = N → Q T' c'.A → Qc .normal a' c'.w) : wpAny P .any L.toArray Qc L.length (Array.replicate L.length false) a c.w := by
  rcases h with h | h
  · exact aRegion1_sound hD H hT E0 hd hN h hq
  · exact aRegion2_sound hD H hT E0 hd hN h hq
end Go.Ab
