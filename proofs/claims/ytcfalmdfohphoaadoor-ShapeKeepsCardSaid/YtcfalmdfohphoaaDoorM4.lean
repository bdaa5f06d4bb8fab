/-
  Regions whose effects have no order of their own.
-/
import Derived.Test.YtcfalmdfohphoaaDoorM3
import Derived.ScopeJumps
import Derived.ChangeShapes
import Derived.WideShapes
import Derived.Deep.Slices
import Derived.Below
namespace Go.Ab
open Go
theorem runP_mono {x : AR} {K K' : AV → Prop} (h : runP x K) (hk : ∀ v, K v → K' v) : runP x K' := by
  obtain ⟨C, v⟩ := x
  cases C with
  | none => unfold runP at *; simp only [forceV_eq] at *; exact hk _ h
  | some C => unfold runP at *; simp only [forceV_eq] at *; exact ⟨h.1, hk _ h.2⟩
theorem aRun_mono {P : Program} {D : Tab} {G : List (Nat × Value)} {A : List AO} {T : List (Nat × AV)} {op : Op} {K K' : AV → List AO → Prop} (h : aRun P D G A T op K) (hk : ∀ v A, K v A → K' v A) : aRun P D G A T op K' := by
  unfold aRun at *
  split
  · rename_i e he
    rw [he] at h
    simp only at h
    obtain ⟨C, v, A'⟩ := e
    cases C with
    | none => unfold runE at *; simp only [forceV_eq, forceA_eq] at *; exact hk _ _ h
    | some C => unfold runE at *; simp only [forceV_eq, forceA_eq] at *; exact ⟨h.1, hk _ _ h.2⟩
  · rename_i f args he
    rw [he] at h
    simp only [forceV_eq, forceA_eq] at *
    exact ACall.mono h hk
  · rename_i ty m args he
    rw [he] at h
    simp only [forceV_eq, forceA_eq] at *
    rcases h with ⟨f, h1, h2⟩ | ⟨f, e, h1, h2⟩
    · exact .inl ⟨f, h1, ACall.mono h2 hk⟩
    · refine .inr ⟨f, e, h1, ?_⟩
      cases args with
      | nil => exact h2
      | cons v rest =>
        obtain ⟨C, x, k1, k2, k3⟩ := h2
        exact ⟨C, x, k1, k2, ACall.mono k3 hk⟩
  · rename_i he
    rw [he] at h
    simp only [forceV_eq, forceA_eq] at *
    exact AAct.mono h hk
  · rename_i he
    rw [he] at h
    exact runP_mono h fun v => hk v A
  · rename_i he
    rw [he] at h
    exact h.elim
theorem agRun_mono {P : Program} {D : Tab} {G : List (Nat × Value)} {L : List Oper} {A : List AO} {T : List (Nat × AV)} {o : Oper} {K K' : AV → List AO → Prop} (h : agRun P D G L A T o K) (hk : ∀ v A, K v A → K' v A) : agRun P D G L A T o K' := by
  unfold agRun at *
  split
  · rename_i hg
    rw [hg] at h
    exact aRun_mono h hk
  · rename_i g hg
    rw [hg] at h
    simp only at h
    split
    · rename_i hq; rw [hq] at h; exact h.elim
    · rename_i t want hq
      rw [hq] at h
      simp only at h
      split
      · rename_i hb; rw [hb] at h; exact h.elim
      · rename_i b hb
        rw [hb] at h
        simp only at h
        split
        · rename_i hp
          rw [hp] at h
          exact runP_mono h fun v => hk v A
        · rename_i hp
          rw [hp] at h
          simp only at h
          refine ⟨fun hb => ?_, fun hb => hk _ _ (h.2 hb)⟩
          have h1 := h.1 hb
          generalize stripCs T o.op.operands.toList = C at *
          cases C with
          | none => exact aRun_mono h1 hk
          | some C => exact ⟨h1.1, aRun_mono h1.2 hk⟩
theorem tr_len2 {P : Program} {D : Tab} {G : List (Nat × Value)} {L : List Oper} {N : Nat} : ∀ {os : List Oper} {T : List (Nat × AV)} {A : List AO} {tr : List Rc} {Tf : List (Nat × AV)} {Af : List AO}, TrOk2 P D G L N os T A tr Tf Af → tr.length = os.length
  | [], _, _, _, _, _, h => by obtain ⟨rfl, _⟩ := h; rfl
  | o :: os, _, _, _, _, _, h => by obtain ⟨v, A1, tr', rfl, _, _, h⟩ := h; simp [tr_len2 h]
theorem tr_at2 {P : Program} {D : Tab} {G : List (Nat × Value)} {L : List Oper} {N : Nat} : ∀ {os : List Oper} {T : List (Nat × AV)} {A : List AO} {tr : List Rc} {Tf : List (Nat × AV)} {Af : List AO}, TrOk2 P D G L N os T A tr Tf Af → ∀ {i : Nat} {o : Oper}, os[i]? = some o →
    ∃ r, tr[i]? = some r ∧ r.o = o ∧ inB N o.dst = true ∧ (memless o.op = true → agRun P D G L r.A r.T o (fun v' A' => v' = r.v ∧ A' = r.A))
  | [], _, _, _, _, _, _, i, o, h => by simp at h
  | p :: os, _, _, _, _, _, h, i, o, hi => by
    obtain ⟨v, A1, tr', rfl, h1, hm, h4⟩ := h
    cases i with
    | zero => simp at hi; subst hi; exact ⟨_, rfl, rfl, h1, hm⟩
    | succ i => simpa using tr_at2 h4 (by simpa using hi)
theorem tr_lk2 {P : Program} {D : Tab} {G : List (Nat × Value)} {L : List Oper} {N : Nat} : ∀ {os : List Oper} {T : List (Nat × AV)} {A : List AO} {tr : List Rc} {Tf : List (Nat × AV)} {Af : List AO}, TrOk2 P D G L N os T A tr Tf Af → ∀ t, (∀ i r, tr[i]? = some r → lk r.T t = vAt tr t (lk T t) (fun _ => true) i) ∧ lk Tf t = vAt tr t (lk T t) (fun _ => true) tr.length
  | [], _, _, _, _, _, h, t => by
    obtain ⟨rfl, rfl, _⟩ := h
    exact ⟨fun i r h => by simp at h, rfl⟩
  | o :: os, T, A, _, Tf, Af, h, t => by
    obtain ⟨v, A1, tr', rfl, h1, hm, h4⟩ := h
    obtain ⟨k1, k2⟩ := tr_lk2 h4 t
    refine ⟨fun i r hi => ?_, ?_⟩
    · cases i with
      | zero => simp at hi; subst hi; rfl
      | succ i =>
        have hi : tr'[i]? = some r := by simpa using hi
        rw [vAt_cons _ _ _ _ _ (by have := get_lt hi; omega), k1 i r hi, lk_upd]
    · rw [List.length_cons, vAt_cons _ _ _ _ _ (Nat.le_refl _), k2, lk_upd]
def Cx.withRoom (c : Cx) : Cx := { c with A := c.A ++ [.room] }
theorem withRoom_sound {c : Cx} (H : HR c) : Ext c c.withRoom ∧ HR c.withRoom := by
  have oldA : ∀ t, t < c.A.length → c.withRoom.A[t]? = c.A[t]? := fun t h => by show (c.A ++ [_])[t]? = _; rw [List.getElem?_append_left h]
  have hlen : c.withRoom.A.length = c.A.length + 1 := by show (c.A ++ [_]).length = _; simp
  have newA : c.withRoom.A[c.A.length]? = some .room := by show (c.A ++ [_])[_]? = _; simp
  have hl : ∀ t, c.withRoom.live t → c.live t := fun t ⟨o, h1, h2⟩ => by
    have hlt := get_lt h1
    rw [hlen] at hlt
    by_cases h : t = c.A.length
    · subst h; rw [newA] at h1; cases h1; cases h2
    · rw [oldA t (by omega)] at h1; exact ⟨o, h1, h2⟩
  have E : Ext c c.withRoom := by
    refine ⟨⟨fun b hI _ => ⟨⟨hI.1, fun t ht => hI.2 t (hl t ht)⟩, rfl⟩, fun t ht => ?_, by rw [hlen]; omega⟩, rfl, rfl, fun b _ => rfl, ⟨rfl, rfl, rfl⟩⟩
    have := TokLe.refl ht
    unfold TokLe at *
    rw [oldA t ht]; exact this
  refine ⟨E, ⟨fun t b ht hb => H.far t b (hl t ht) hb, fun t u b ht hu => H.inj t u b (hl t ht) (hl u hu), fun t o h => ?_, H.old, fun g v h => (H.glo g v h).mono E.le.I⟩⟩
  by_cases h' : t < c.A.length
  · rw [oldA t h'] at h
    exact objOk_ext E (H.obj t o h) (fun _ _ _ => rfl)
  · have hlt := get_lt h
    rw [hlen] at hlt
    have : t = c.A.length := by omega
    subst this
    rw [newA] at h; cases h; trivial
def Cx.nilRows (c : Cx) : Nat → Cx
  | 0 => c
  | n + 1 => (c.nilRows n).withRoom
theorem nilRows_sound {c : Cx} (H : HR c) : ∀ n, Ext c (c.nilRows n) ∧ HR (c.nilRows n) ∧ (c.nilRows n).w = c.w ∧ (c.nilRows n).A = c.A ++ Ab.nilRows n
  | 0 => ⟨Ext.refl c, H, rfl, (List.append_nil _).symm⟩
  | n + 1 => by
    obtain ⟨h1, h2, h3, h4⟩ := nilRows_sound H n
    obtain ⟨k1, k2⟩ := withRoom_sound h2
    refine ⟨h1.trans k1, k2, h3, ?_⟩
    show (c.nilRows n).A ++ [AO.room] = c.A ++ (Ab.nilRows n ++ [AO.room])
    rw [h4, List.append_assoc]
structure DrawOk2 (L : List Oper) : Prop where
  back : ∀ (i : Nat) o, L[i]? = some o → ∀ e ∈ o.after.toList, bindsA e = true → e.on < i
  data : ∀ (i j : Nat) o p t, L[i]? = some o → L[j]? = some p → t ∈ looksOf L o → p.dst = some t → j ≠ i → if j < i then rch (amask L []) j i = true else rch (amask L []) i j = true
  same : ∀ (i j : Nat) o p d, L[i]? = some o → L[j]? = some p → o.dst = some d → p.dst = some d → i < j → rch (amask L []) i j = true
  eff : ∀ (i : Nat) o, L[i]? = some o → isEff o.op = true → i ∈ effsOf L 0
theorem drawOk2 {L : List Oper} (h : drawM2 L (amask L []) (effsOf L 0) = true) : DrawOk2 L := by
  unfold drawM2 at h
  have H : ∀ (i : Nat) o, L[i]? = some o → _ := fun i o hi => all_range h (get_lt hi)
  refine ⟨fun i o hi e he hb => ?_, fun i j o p t hi hj ht hd hne => ?_, fun i j o p d hi hj h1 h2 hlt => ?_, fun i o hi he => ?_⟩
  all_goals (have h0 := H i o hi; simp only [hi, Bool.and_eq_true] at h0; obtain ⟨⟨ha, hb'⟩, hc⟩ := h0)
  · have := List.all_eq_true.1 ha e he
    rw [hb] at this
    exact blt_of (by simpa using this)
  · have h1 := all_range hb' (get_lt hj)
    simp only [hj, Bool.and_eq_true] at h1
    have h2 := List.all_eq_true.1 h1.1 t ht
    rw [isDst_of hd] at h2
    simp only [Bool.not_true, Bool.false_or, Bool.or_eq_true] at h2
    rcases h2 with h2 | h2
    · exact absurd (beq_eq h2) hne
    · split at h2
      · rename_i hlt; rw [if_pos hlt]; exact h2
      · rename_i hlt; rw [if_neg hlt]; exact h2
  · have h3 := all_range hb' (get_lt hj)
    simp only [hj, Bool.and_eq_true, h1] at h3
    have h4 := h3.2
    rw [isDst_of h2] at h4
    have : Nat.blt i j = true := Nat.ble_eq_true_of_le hlt
    rw [this] at h4
    simpa using h4
  · rw [if_pos he] at hc
    simpa using hc
theorem stOps_at {P : Program} {D : Tab} {G : List (Nat × Value)} {L : List Oper} {M E : List Nat} {S : List (Nat × List AO)} {s : Nat} {A : List AO} : ∀ (tr : List Rc) {k0 : Nat}, stOps P D G L M E S s A tr k0 → ∀ (k : Nat) (i : Nat) (r : Rc), tr[i]? = some r → k = k0 →
    match okS M E (k + i) s with
    | false => True
    | true => match isEff r.o.op with
      | true => (match s.testBit (k + i) with
        | true => True
        | false => match lkS (s ||| (1 <<< (k + i))) S with
          | some A1 => agRun P D G L A r.T r.o fun v A' => View A.length v A' r.v A1
          | none => False)
      | false => match memless r.o.op with
        | true => True
        | false => agRun P D G L A r.T r.o fun v A' => v = r.v ∧ A' = A
  | [], _, _, _, _, _, h, _ => by simp at h
  | p :: tr, k0, h, k, i, r, hi, hk => by
    subst hk
    unfold stOps at h
    cases i with
    | zero => simp at hi; subst hi; exact h.1
    | succ i =>
      have := stOps_at tr h.2 (k + 1) i r (by simpa using hi) rfl
      rw [show k + 1 + i = k + (i + 1) by omega] at this
      exact this
theorem stAll_at {P : Program} {D : Tab} {G : List (Nat × Value)} {L : List Oper} {M E : List Nat} {S : List (Nat × List AO)} {tr : List Rc} {s : Nat} {A : List AO} : ∀ {S' : List (Nat × List AO)}, stAll P D G L M E S tr S' → lkS s S' = some A → stOps P D G L M E S s A tr 0
  | [], _, h => by cases h
  | (s', A') :: S', h, hl => by
    unfold lkS at hl
    split at hl
    · rename_i hb
      cases hl
      rw [← beq_eq hb]; exact h.1
    · exact stAll_at h.2 hl
theorem fullM_bit (j : Nat) : ∀ E : List Nat, (fullM E).testBit j = true ↔ j ∈ E
  | [] => by simp [fullM]
  | e :: E => by
    unfold fullM
    rw [Nat.testBit_or, Bool.or_eq_true, fullM_bit j E, Nat.one_shiftLeft, Nat.testBit_two_pow]
    simp [eq_comm]
theorem aRegion2_sound {P : Program} {D : Tab} (hD : TabOk P D) {L : List Oper} {N : Nat} {Qc : Exit → Act → World → Prop} {Q : List (Nat × AV) → List AO → Prop} {n0 : Nat} {c0 c : Cx} {T : List (Nat × AV)} {a : Act}
    (H : HR c) (hT : TR c T a.tmps) (E0 : ExtN n0 c0 c) (hd : a.defers = []) (hN : a.tmps.size = N) (h : aRegion2 P D c0.G N L T c.A Q)
    (hq : ∀ c' a' T', HR c' → TR c' T' a'.tmps → ExtN n0 c0 c' → a'.defers = [] → a'.tmps.size = N → Q T' c'.A → Qc .normal a' c'.w) : wpAny P .any L.toArray Qc L.length (Array.replicate L.length false) a c.w := by
  obtain ⟨hB, h⟩ := h
  have ok := drawOk2 hB
  obtain ⟨n, h⟩ := h
  obtain ⟨n1, n2, n3, n4⟩ := nilRows_sound H n
  rw [← n3]
  rw [← n4] at h
  have hT := hT.ext n1
  have E0 := E0.step n1
  clear n1 n3 n4
  generalize c.nilRows n = c at *
  have H := n2
  clear n2
  obtain ⟨tr, Tf, Af, htr, hend⟩ := aDraw2_tr L T c.A [] h
  rw [List.reverse_nil, List.nil_append] at hend
  clear h
  obtain ⟨S, hS0, hSf, hst, hQ⟩ := hend
  have hlen := tr_len2 htr
  have hat := fun (i : Nat) (o : Oper) (hi : L[i]? = some o) => tr_at2 htr hi
  have hlk := fun t => tr_lk2 htr t
  have hS : ∀ s A, lkS s S = some A → stOps P D c0.G L (amask L []) (effsOf L 0) S s A tr 0 := fun s A h => stAll_at hst h
  -- what holds whenever some have come
  have key : ∀ (fuel : Nat) (listed : Array Bool) (c : Cx) (a : Act), listed.size = L.length → (List.range L.length).countP (fun i => !listed.getD i false) = fuel → HR c → ExtN n0 c0 c → a.defers = [] → a.tmps.size = N →
      (∀ t, Rel c (vAt tr t (lk T t) (fun j => listed.getD j false) tr.length) (a.tmps.getD t undef)) → (∀ (i : Nat) o, L[i]? = some o → listed.getD i false = true → ∀ e ∈ o.after.toList, bindsA e = true → listed.getD e.on false = true) →
      (∃ s, (∀ j, s.testBit j = true ↔ j ∈ effsOf L 0 ∧ listed.getD j false = true) ∧ lkS s S = some c.A) → wpAny P .any L.toArray Qc fuel listed a c.w := by
    intro fuel
    induction fuel with
    | zero =>
      intro listed c a hsz hcnt H E hd hN hval hdown hk
      obtain ⟨s, hs, hkA⟩ := hk
      have hall : ∀ i, i < L.length → listed.getD i false = true := fun i hi => by
        have := List.countP_eq_zero.1 hcnt i (List.mem_range.2 hi)
        simpa using this
      refine ⟨?_, ?_⟩
      · cases hr : Region.ready .any L.toArray listed with
        | nil => rfl
        | cons i l =>
          have hi : i ∈ Region.ready .any L.toArray listed := by rw [hr]; exact List.mem_cons_self ..
          obtain ⟨h1, o, h2, _⟩ := mem_ready.1 hi
          have hlt : i < L.length := get_lt (by simpa using h2)
          have := getD_both h1
          rw [hall i hlt] at this; cases this
      · have hfull : s = fullM (effsOf L 0) := by
          refine Nat.eq_of_testBit_eq fun j => ?_
          rw [Bool.eq_iff_iff, hs j, fullM_bit]
          refine ⟨fun h => h.1, fun h => ⟨h, ?_⟩⟩
          obtain ⟨o, ho, _, _⟩ := effs_at L 0 j h
          exact hall j (by have := get_lt ho; omega)
        rw [hfull, hSf] at hkA
        have hAf : c.A = Af := (Option.some.inj hkA).symm
        refine hq c a Tf H (fun t => ?_) E hd hN (by rw [hAf]; exact hQ)
        rw [(hlk t).2]
        have := hval t
        rwa [vAt_same (S' := fun _ => true) _ (fun j r hj _ _ => hall j (by omega))] at this
    | succ fuel ih =>
      intro listed c a hsz hcnt H E hd hN hval hdown hk
      obtain ⟨s, hs, hkA⟩ := hk
      have closed : ∀ i j, rch (amask L []) j i = true → listed.getD i false = true → listed.getD j false = true := by
        intro i
        induction i using Nat.strongRecOn with
        | _ i ihi =>
          intro j hr hl
          obtain ⟨o, ho, e, he, hb, hx⟩ := rch_step hr
          have hle := hdown i o ho hl e he hb
          rcases hx with rfl | hx
          · exact hle
          · exact ihi e.on (ok.back i o ho e he hb) j hx hle
      refine ⟨fun h0 => ?_, fun i hi => ?_⟩
      · -- some one is ready
        have hpos : 0 < (List.range L.length).countP (fun i => !listed.getD i false) := by omega
        obtain ⟨i, h1, h2⟩ := List.countP_pos_iff.1 hpos
        obtain ⟨m, ⟨m1, m2⟩, m3⟩ := least_of (p := fun i => i < L.length ∧ listed.getD i false = false) i ⟨List.mem_range.1 h1, by simpa using h2⟩
        exfalso
        have : m ∈ Region.ready .any L.toArray listed := by
          refine mem_ready.2 ⟨getD_in (by omega) m2, L[m], by simp [m1], fun e he hb => ?_⟩
          have hlt := ok.back m L[m] (List.getElem?_eq_getElem m1) e (by simpa using he) hb
          cases hl : listed.getD e.on false with
          | true => rfl
          | false => exact absurd ⟨by omega, hl⟩ (m3 e.on hlt)
        rw [h0] at this; cases this
      · obtain ⟨hun, o, ho, haft⟩ := mem_ready.1 hi
        have ho : L[i]? = some o := by simpa using ho
        have hil := get_lt ho
        have hun := getD_both hun
        have rclosed : ∀ j, rch (amask L []) j i = true → listed.getD j false = true := fun j hr => by
          obtain ⟨o', ho', e, he, hb, hx⟩ := rch_step hr
          rw [ho] at ho'; cases ho'
          have hle := haft e (by simpa using he) hb
          rcases hx with rfl | hx
          · exact hle
          · exact closed _ _ hx hle
        obtain ⟨r, hr, hro, hin, hrm⟩ := hat i o ho
        have htlk : ∀ t, t ∈ looksOf L o → Rel c (lk r.T t) (a.tmps.getD t undef) := fun t ht => by
          rw [(hlk t).1 i r hr]
          have := hval t
          rwa [vAt_cut (i := i) (fun j p hj hp hdst => ?_) tr.length (by omega) (fun j p h1 h2 hp hdst => ?_)] at this
          · obtain ⟨q, hq1, hq2⟩ : ∃ q, L[j]? = some q ∧ q = p.o := by
              have hjl : j < L.length := by have := get_lt hp; omega
              obtain ⟨r', hr', hro', _⟩ := hat j L[j] (List.getElem?_eq_getElem hjl)
              rw [hp] at hr'; cases hr'
              exact ⟨_, List.getElem?_eq_getElem hjl, hro'.symm⟩
            have := ok.data i j o q t ho hq1 ht (by rw [hq2]; exact hdst) (by omega)
            rw [if_pos hj] at this
            exact rclosed j this
          · by_cases hji : j = i
            · subst hji; exact hun
            · obtain ⟨q, hq1, hq2⟩ : ∃ q, L[j]? = some q ∧ q = p.o := by
                have hjl : j < L.length := by have := get_lt hp; omega
                obtain ⟨r', hr', hro', _⟩ := hat j L[j] (List.getElem?_eq_getElem hjl)
                rw [hp] at hr'; cases hr'
                exact ⟨_, List.getElem?_eq_getElem hjl, hro'.symm⟩
              have := ok.data i j o q t ho hq1 ht (by rw [hq2]; exact hdst) hji
              rw [if_neg (by omega)] at this
              cases hl : listed.getD j false with
              | false => rfl
              | true => rw [closed _ _ this hl] at hun; cases hun
        have tied : Tied L c r.T a o := by
          refine ⟨fun x hx => ev_of fun t ht => htlk t ?_, fun t want hg => htlk t ?_⟩
          · unfold looksOf
            exact List.mem_append_right _ (mem_tmps (by subst ht; simpa using hx))
          · unfold looksOf; rw [hg]; exact List.mem_append_left _ (List.mem_cons_self ..)
        -- the run at the memory that there is
        have hop := stOps_at tr (hS s c.A hkA) 0 i r hr rfl
        rw [Nat.zero_add] at hop
        have hokS : okS (amask L []) (effsOf L 0) i s = true := by
          unfold okS
          rw [List.all_eq_true]
          intro e he
          simp only [Bool.and_eq_true, Bool.or_eq_true, Bool.not_eq_true']
          constructor
          · cases h1 : rch (amask L []) e i with
            | false => exact .inl rfl
            | true => exact .inr ((hs e).2 ⟨he, rclosed e h1⟩)
          · cases h1 : rch (amask L []) i e with
            | false => exact .inl rfl
            | true =>
              refine .inr ?_
              cases h2 : s.testBit e with
              | false => rfl
              | true =>
                have := closed e i h1 ((hs e).1 h2).2
                rw [hun] at this; cases this
        have hnb : s.testBit i = false := by
          cases h2 : s.testBit i with
          | false => rfl
          | true => have := ((hs i).1 h2).2; rw [hun] at this; cases this
        rw [hokS, hro] at hop
        have step : ∃ A1 s', agRun P D c0.G L c.A r.T o (fun v' A' => (v' = r.v ∧ A' = A1) ∨ View c.A.length v' A' r.v A1) ∧ (∀ j, s'.testBit j = true ↔ j ∈ effsOf L 0 ∧ (decide (j = i) || listed.getD j false) = true) ∧ lkS s' S = some A1 := by
          cases he : isEff o.op with
          | true =>
            rw [he, hnb] at hop
            cases hl : lkS (s ||| (1 <<< i)) S with
            | none => rw [hl] at hop; exact hop.elim
            | some A1 =>
              rw [hl] at hop
              refine ⟨A1, _, agRun_mono hop (fun v' A' h => .inr h), fun j => ?_, hl⟩
              have hiE : i ∈ effsOf L 0 := ok.eff i o ho he
              rw [Nat.testBit_or, Nat.one_shiftLeft, Nat.testBit_two_pow, Bool.or_eq_true, hs j]
              simp only [decide_eq_true_eq, Bool.or_eq_true]
              constructor
              · rintro (⟨h1, h2⟩ | h1)
                · exact ⟨h1, .inr h2⟩
                · exact ⟨h1 ▸ hiE, .inl h1.symm⟩
              · rintro ⟨h1, h2 | h2⟩
                · exact .inr h2.symm
                · exact .inl ⟨h1, h2⟩
          | false =>
            rw [he] at hop
            have hop2 : agRun P D c0.G L c.A r.T o (fun v' A' => v' = r.v ∧ A' = c.A) := by
              cases hm : memless o.op with
              | true => exact agRun_memless hm (hrm hm)
              | false =>
                rw [hm] at hop
                exact hop
            refine ⟨c.A, s, agRun_mono hop2 (fun v' A' h => .inl h), fun j => ?_, hkA⟩
            have hne : j ∈ effsOf L 0 → j ≠ i := fun hj hji => by
              obtain ⟨p, hp, hpe, _⟩ := effs_at L 0 j hj
              rw [Nat.sub_zero, hji, ho] at hp; cases hp
              rw [he] at hpe; cases hpe
            rw [hs j]
            constructor
            · rintro ⟨h1, h2⟩; exact ⟨h1, by simp [h2]⟩
            · rintro ⟨h1, h2⟩; exact ⟨h1, by simpa [hne h1] using h2⟩
        obtain ⟨A1, s', hrun', hk1, hk2⟩ := step
        rw [← E.G] at hrun'
        refine agRun_sound hD H ho tied hrun' fun c1 u rv E1 H1 hrel1 hK => ?_
        have seen : ∃ c' : Cx, c'.w = c1.w ∧ Ext c c' ∧ HR c' ∧ Rel c' r.v u ∧ c'.A = A1 := by
          rcases hK with ⟨rfl, hA⟩ | ⟨p, g1, g2, g3, g4⟩
          · exact ⟨c1, rfl, E1, H1, hrel1, hA⟩
          · have R := renOk_view g1 g2
            obtain ⟨e1, e2⟩ := ren_sound H1 R
            have e3 := E1.toN.trans e1
            refine ⟨c1.ren (nameOf p) A1, rfl, ⟨e3.le, e3.X, e3.G, e3.far, e3.st⟩, e2, ?_, rfl⟩
            exact ren_rel R r.v u g4 (by rw [← g3]; exact hrel1)
        obtain ⟨c', hw', E', H', hrel, hcA⟩ := seen
        rw [← hw']
        have hset : ∀ j, (listed.setIfInBounds i true).getD j false = (decide (j = i) || listed.getD j false) := fun j => by
          by_cases hj : j = i
          · subst hj
            have : j < listed.size := by omega
            simp [Array.getD_eq_getD_getElem?, this]
          · rw [getD_set_ne false (fun e => hj e.symm)]; simp [hj]
        have hputs : (a.put o.dst u).tmps.size = N ∧ (a.put o.dst u).defers = a.defers ∧ ∀ t, (a.put o.dst u).tmps.getD t undef = if o.dst = some t then u else a.tmps.getD t undef := by
          cases hdst : o.dst with
          | none => exact ⟨hN, rfl, fun t => by rw [if_neg (by simp)]; rfl⟩
          | some d =>
            rw [hdst] at hin
            have hdN := blt_of hin
            refine ⟨by unfold Act.put; simp [hN], rfl, fun t => ?_⟩
            unfold Act.put
            by_cases hdt : d = t
            · subst hdt; simp [Array.getD_eq_getD_getElem?, hN, hdN]
            · simp [Array.getD_eq_getD_getElem?, hdt]
        refine ih (listed.setIfInBounds i true) c' (a.put o.dst u) (by simpa using hsz) ?_ H' (E.step E') (hputs.2.1.trans hd) hputs.1 (fun t => ?_) (fun j p hj hl e he hb => ?_) ⟨s', fun j => by rw [hset]; exact hk1 j, by rw [hk2, hcA]⟩
        · have := countP_one (n := L.length) (i := i) (p := fun i => !listed.getD i false) (q := fun j => !(listed.setIfInBounds i true).getD j false) hil (by simp only [hun]; rfl) (by simp only [hset]; simp) (fun j hj => by simp only [hset]; simp [hj])
          omega
        · have e1 : vAt tr t (lk T t) (fun j => (listed.setIfInBounds i true).getD j false) tr.length = vAt tr t (lk T t) (fun j => decide (j = i) || listed.getD j false) tr.length := vAt_same _ fun j _ _ _ _ => hset j
          rw [e1, vAt_add hr tr.length (by omega) (fun j p hj hp hpd hrd hl => ?_), hputs.2.2 t, hro]
          · by_cases hdt : o.dst = some t
            · rw [if_pos hdt, if_pos hdt]; exact hrel
            · rw [if_neg hdt, if_neg hdt]; exact (hval t).ext E'
          · rcases Nat.lt_trichotomy j i with h | h | h
            · exact h
            · subst h
              have hl : listed.getD j false = true := hl
              rw [hun] at hl; cases hl
            · have hjl : j < L.length := by omega
              obtain ⟨r', hr', hro', _⟩ := hat j L[j] (List.getElem?_eq_getElem hjl)
              rw [hp] at hr'; cases hr'
              rw [hro] at hrd
              rw [hro'] at hpd
              have := ok.same i j o L[j] t ho (List.getElem?_eq_getElem hjl) hrd hpd h
              rw [closed _ _ this hl] at hun; cases hun
        · rw [hset] at hl ⊢
          by_cases hji : j = i
          · subst hji
            rw [ho] at hj; cases hj
            rw [haft e (by simpa using he) hb]; simp
          · have hl : listed.getD j false = true := by simpa [hji] using hl
            rw [hdown j p hj hl e he hb]; simp
  have hcnt0 : (List.range L.length).countP (fun i => !(Array.replicate L.length false).getD i false) = L.length := by
    rw [List.countP_eq_length.2 (fun i _ => by rw [getD_replicate_false]; rfl)]; simp
  refine key L.length (Array.replicate L.length false) c a (by simp) hcnt0 H E0 hd hN (fun t => ?_) (fun i o _ hl => by rw [getD_replicate_false] at hl; cases hl) ⟨0, fun j => by rw [getD_replicate_false]; simp, hS0⟩
  have : vAt tr t (lk T t) (fun j => (Array.replicate L.length false).getD j false) tr.length = lk T t := by
    have := vAt_cut (tr := tr) (t := t) (cur := lk T t) (S := fun j => (Array.replicate L.length false).getD j false) (i := 0) (fun j r h => by omega) tr.length (Nat.zero_le _) (fun j r _ _ _ _ => getD_replicate_false _ _)
    rw [this]; rfl
  rw [this]; exact hT t
theorem aRegion_sound {P : Program} {D : Tab} (hD : TabOk P D) {L : List Oper} {N : Nat} {Qc : Exit → Act → World → Prop} {Q : List (Nat × AV) → List AO → Prop} {n0 : Nat} {c0 c : Cx} {T : List (Nat × AV)} {a : Act}
    (H : HR c) (hT : TR c T a.tmps) (E0 : ExtN n0 c0 c) (hd : a.defers = []) (hN : a.tmps.size = N) (h : aRegion P D c0.G N L T c.A Q)
    (hq : ∀ c' a' T', HR c' → TR c' T' a'.tmps → ExtN n0 c0 c' → a'.defers = [] → a'.tmps.size = N → Q T' c'.A → Qc .normal a' c'.w) : wpAny P .any L.toArray Qc L.length (Array.replicate L.length false) a c.w := by
  rcases h with h | h
  · exact aRegion1_sound hD H hT E0 hd hN h hq
  · exact aRegion2_sound hD H hT E0 hd hN h hq
end Go.Ab
/-
  Code: what must be so ahead of it.
-/
namespace Go.Ab
open Go
structure Env where
  P : Program
  D : Tab
  G : List (Nat × Value)
  N : Nat
  n0 : Nat
  cuts : List Nat
structure EnvOk (E : Env) : Prop where
  tab : TabOk E.P E.D
  mix : E.P.follows .mixedOrders = true
/-- one state may be seen as another one -/
def Ent (n0 : Nat) (σ σ' : St) : Prop := ∀ c : Cx, HR c → c.A = σ.A → n0 ≤ c.A.length → ∀ tmps, TR c σ.T tmps → ∃ c' : Cx, c'.w = c.w ∧ ExtN n0 c c' ∧ HR c' ∧ c'.A = σ'.A ∧ TR c' σ'.T tmps
theorem ExtN.refl {n : Nat} {c : Cx} (h : n ≤ c.A.length) : ExtN n c c := (Ext.refl c).toN' h
theorem Ent.refl (n0 : Nat) (σ : St) : Ent n0 σ σ := fun c H hA hn _ h => ⟨c, rfl, ExtN.refl hn, H, hA, h⟩
theorem Ent.trans {n0 : Nat} {σ σ' σ'' : St} (h : Ent n0 σ σ') (h' : Ent n0 σ' σ'') : Ent n0 σ σ'' := fun c H hA hn tmps ht => by
  obtain ⟨c1, k1, k2, k3, k4, k5⟩ := h c H hA hn tmps ht
  obtain ⟨c2, j1, j2, j3, j4, j5⟩ := h' c1 k3 k4 k2.le.len tmps k5
  exact ⟨c2, j1.trans k1, k2.trans j2, j3, j4, j5⟩
def subT (T : List (Nat × AV)) : List (Nat × AV) → Prop
  | [] => True
  | [(d, v)] => lk T d = v
  | (d, v) :: T' => lk T d = v ∧ subT T T'
theorem subT_lk {T : List (Nat × AV)} {c : Cx} {tmps : Array Value} (h : TR c T tmps) : ∀ T' : List (Nat × AV), subT T T' → TR c T' tmps
  | [], _, n => by show Rel c .unk _; exact rel_unk
  | [(d, v)], hs, n => by
    unfold lk
    by_cases hd : d = n
    · subst hd; rw [if_pos rfl]; have : lk T d = v := hs; rw [← this]; exact h d
    · rw [if_neg hd]; exact rel_unk
  | (d, v) :: x :: T', hs, n => by
    unfold lk
    by_cases hd : d = n
    · subst hd; rw [if_pos rfl]; have : lk T d = v := hs.1; rw [← this]; exact h d
    · rw [if_neg hd]; exact subT_lk h (x :: T') hs.2 n
theorem Ent.sub {n0 : Nat} {T T' : List (Nat × AV)} {A A' : List AO} (hA : A = A') (hT : subT T T') : Ent n0 ⟨T, A⟩ ⟨T', A'⟩ := fun c H h hn _ ht => by
  subst hA
  exact ⟨c, rfl, ExtN.refl hn, H, h, subT_lk ht T' hT⟩
/-- a nil slice as a slice of one's own -/
theorem Ent.nil {n0 : Nat} {T : List (Nat × AV)} {A : List AO} (d : Nat) (e : Ty) (h : lk T d = .nilSl) : Ent n0 ⟨T, A⟩ ⟨(d, .ref A.length 0 0) :: T, A ++ [.row e []]⟩ := fun c H hA hn tmps ht => by
  have hA : c.A = A := hA
  subst hA
  obtain ⟨k1, k2, _⟩ := nilRow_sound (p := none) H e
  refine ⟨c.nilRow e, rfl, k1.toN' hn, k2, rfl, fun n => ?_⟩
  show Rel _ (lk ((d, _) :: T) n) _
  unfold lk
  by_cases hd : d = n
  · subst hd
    rw [if_pos rfl]
    have := ht d
    rw [h] at this
    unfold Rel at this
    obtain ⟨p, this⟩ := this
    rw [this]; exact (nilRow_sound H e).2.2
  · rw [if_neg hd]; exact (ht n).ext k1
/-! ### code -/
def thenQ (next : St → Prop) (Q : Exit → St → Prop) : Exit → St → Prop
  | .normal, σ => next σ
  | e, σ => Q e σ
def blkQ (id : Nat) (Q : Exit → St → Prop) : Exit → St → Prop
  | .exit i, σ => match Nat.beq i id with
    | true => Q .normal σ
    | false => Q (.exit i) σ
  | e, σ => Q e σ
def ALoop (n0 : Nat) (body : (Exit → St → Prop) → St → Prop) (Q : Exit → St → Prop) (σ : St) : Prop :=
  ∃ (ι : Type) (S : ι → St) (I : ι → Prop) (μ : ι → Nat) (i0 : ι), I i0 ∧ Ent n0 σ (S i0) ∧ ∀ i, I i → body (thenQ (fun σ' => ∃ j, I j ∧ μ j < μ i ∧ Ent n0 σ' (S j)) Q) (S i)
def aReg (P : Program) (D : Tab) (G : List (Nat × Value)) (N : Nat) (L : List Oper) (draw : Bool) (T : List (Nat × AV)) (A : List AO) (Q : List (Nat × AV) → List AO → Prop) : Prop := match draw with
  | false => aOps P D G N L L T A Q
  | true => aRegion P D G N L T A Q
/-- is the state to be seen otherwise ahead of this region? -/
def cutB (q : Nat) : List Nat → Bool
  | [] => false
  | x :: l => match Nat.beq x q with
    | true => true
    | false => cutB q l
def awp (E : Env) : Code → (Exit → St → Prop) → St → Prop
  | .skip, Q, σ => Q .normal σ
  | .label _, Q, σ => Q .normal σ
  | .region id ⟨L⟩ draw, Q, ⟨T, A⟩ => match E with
    | ⟨P, D, G, N, n0, cuts⟩ => match cutB id cuts with
      | false => aReg P D G N L draw T A fun T A => Q .normal ⟨T, A⟩
      | true => ∃ T' A', Ent n0 ⟨T, A⟩ ⟨T', A'⟩ ∧ aReg P D G N L draw T' A' fun T A => Q .normal ⟨T, A⟩
  | .seq x y, Q, σ => awp E x (thenQ (awp E y Q) Q) σ
  | .cond c x y, Q, σ => match ev σ.T c with
    | .fz .bool b => (b = true → awp E x Q σ) ∧ (b = false → awp E y Q σ)
    | _ => False
  | .block id c, Q, σ => awp E c (blkQ id Q) σ
  | .loop c, Q, σ => ALoop E.n0 (awp E c) Q σ
  | .exit id, Q, σ => Q (.exit id) σ
  | .goto l, Q, σ => Q (.goto l) σ
  | .ret, Q, σ => Q .ret σ
  | _, _, _ => False
def Post (E : Env) (c0 : Cx) (Q : Exit → St → Prop) : Exit → Act → World → Prop := fun e a w => ∃ σ, Q e σ ∧ Sim E.n0 c0 E.N σ a w
theorem wp_region_list {P : Program} {id : Nat} {ops : Array Oper} {Q : Exit → Act → World → Prop} {a : Act} {w : World} (h : wpOps P ops.toList.toArray Q (List.range' 0 ops.toList.length) a w) : (Code.region id ops false).wp P Q a w := by
  refine wp_region ?_
  rw [List.range_eq_range']
  simpa using h
theorem sim_heap {E : Env} {c0 : Cx} {σ : St} {a : Act} {w w' : World} (h : Sim E.n0 c0 E.N σ a w) (hw : w'.heap = w.heap) (hs' : WSame w w') : Sim E.n0 c0 E.N σ a w' := by
  obtain ⟨c, rfl, h2, h3, h4, h5, h6, h7⟩ := h
  obtain ⟨k1, k2⟩ := ext_draw h3 w' hw hs'
  exact ⟨{ c with w := w' }, rfl, h2, k2, h4.ext k1, h5.step k1, h6, h7⟩
theorem awp_sound {E : Env} (ok : EnvOk E) (c0 : Cx) (hG : c0.G = E.G) : ∀ (c : Code) (Q : Exit → St → Prop) (σ : St) (a : Act) (w : World), awp E c Q σ → Sim E.n0 c0 E.N σ a w → c.wp E.P (Post E c0 Q) a w := by
  intro c
  induction c with
  | skip => intro Q σ a w h hs; exact wp_skip ⟨σ, h, hs⟩
  | label l => intro Q σ a w h hs; exact wp_label ⟨σ, h, hs⟩
  | exit id => intro Q σ a w h hs; exact wp_exit ⟨σ, h, hs⟩
  | goto l => intro Q σ a w h hs; exact wp_goto ⟨σ, h, hs⟩
  | ret => intro Q σ a w h hs; exact wp_ret ⟨σ, h, hs⟩
  | refuse s => intro Q σ a w h hs; exact h.elim
  | scope c _ => intro Q σ a w h hs; exact h.elim
  | rangeFunc f ps x y _ _ => intro Q σ a w h hs; exact h.elim
  | region id ops draw =>
    intro Q σ a w h hs
    obtain ⟨L⟩ := ops
    obtain ⟨P, D, G, N, n0, cuts⟩ := E
    have main : ∀ (T : List (Nat × AV)) (A : List AO), aReg P D G N L draw T A (fun T A => Q .normal ⟨T, A⟩) → Sim n0 c0 N ⟨T, A⟩ a w → (Code.region id ⟨L⟩ draw).wp P (Post ⟨P, D, G, N, n0, cuts⟩ c0 Q) a w := by
      intro T A h hs
      cases draw with
      | false =>
        obtain ⟨c, rfl, hA, H, hT, hE, hd, hN⟩ := hs
        refine wp_region_list ?_
        have h : aOps P D G N L L T A (fun T A => Q .normal ⟨T, A⟩) := h
        have hA : c.A = A := hA
        have hG : c0.G = G := hG
        rw [← hA, ← hG] at h
        exact aOps_sound ok.tab L 0 T c a (fun j => by simp) H hT hE hd hN h fun c' a' T' H' hT' hE' hd' hN' hQ => ⟨⟨T', c'.A⟩, hQ, c', rfl, rfl, H', hT', hE', hd', hN'⟩
      | true =>
        refine wp_region_any ok.mix ?_
        obtain ⟨c, hw, hA, H, hT, hE, hd, hN⟩ := sim_heap (E := ⟨P, D, G, N, n0, cuts⟩) (w' := { w with drawn := w.drawn + 1 }) hs rfl ⟨rfl, rfl, rfl⟩
        rw [← hw]
        have h : aRegion P D G N L T A (fun T A => Q .normal ⟨T, A⟩) := h
        have hA : c.A = A := hA
        have hG : c0.G = G := hG
        rw [← hA, ← hG] at h
        have := aRegion_sound (Qc := Post ⟨P, D, G, N, n0, cuts⟩ c0 Q) ok.tab H hT hE hd hN h fun c' a' T' H' hT' hE' hd' hN' hQ => ⟨⟨T', c'.A⟩, hQ, c', rfl, rfl, H', hT', hE', hd', hN'⟩
        simpa using this
    obtain ⟨T, A⟩ := σ
    unfold awp at h
    simp only at h
    split at h
    · exact main T A h hs
    · obtain ⟨T', A', he, h⟩ := h
      refine main T' A' h ?_
      obtain ⟨cx, hw, hA, H, hT, hE, hd, hN⟩ := hs
      obtain ⟨c', k1, k2, k3, k4, k5⟩ := he cx H hA hE.le.len _ hT
      exact ⟨c', k1.trans hw, k4, k3, k5, hE.trans k2, hd, hN⟩
  | seq x y ihx ihy =>
    intro Q σ a w h hs
    refine wp_seq (wp_mono (ihx _ σ a w h hs) fun e a' w' ⟨σ', hq, hs'⟩ => ?_)
    cases e with
    | normal => exact ihy Q σ' a' w' hq hs'
    | _ => exact ⟨σ', hq, hs'⟩
  | cond c x y ihx ihy =>
    intro Q σ a w h hs
    unfold awp at h
    split at h
    · rename_i b hb
      obtain ⟨cx, rfl, hA, H, hT, hE, hd, hN⟩ := hs
      have hv := hT.ev (a := a) c
      rw [hb] at hv
      refine wp_cond_split (rel_bool.1 hv) (fun ht => ihx Q σ a _ (h.1 ht) ⟨cx, rfl, hA, H, hT, hE, hd, hN⟩) (fun hf => ihy Q σ a _ (h.2 hf) ⟨cx, rfl, hA, H, hT, hE, hd, hN⟩)
    · exact h.elim
  | block id c ih =>
    intro Q σ a w h hs
    refine wp_block (wp_mono (ih _ σ a w h hs) fun e a' w' ⟨σ', hq, hs'⟩ => ?_)
    cases e with
    | exit i =>
      show if i = id then _ else _
      have hq : (match Nat.beq i id with | true => Q .normal σ' | false => Q (.exit i) σ') := hq
      by_cases hi : i = id
      · rw [if_pos hi]
        have : Nat.beq i id = true := by rw [hi]; simp
        rw [this] at hq; exact ⟨σ', hq, hs'⟩
      · rw [if_neg hi]
        have : Nat.beq i id = false := by
          cases hb : Nat.beq i id with
          | false => rfl
          | true => exact absurd (beq_eq hb) hi
        rw [this] at hq; exact ⟨σ', hq, hs'⟩
    | _ => exact ⟨σ', hq, hs'⟩
  | loop c ih =>
    intro Q σ a w h hs
    obtain ⟨ι, S, I, μ, i0, h0, he, hround⟩ := h
    have ent : ∀ {σ σ' : St} {a : Act} {w : World}, Ent E.n0 σ σ' → Sim E.n0 c0 E.N σ a w → Sim E.n0 c0 E.N σ' a w := by
      intro σ σ' a w he ⟨cx, hw, hA, H, hT, hE, hd, hN⟩
      obtain ⟨c', k1, k2, k3, k4, k5⟩ := he cx H hA hE.le.len _ hT
      exact ⟨c', k1.trans hw, k4, k3, k5, hE.trans k2, hd, hN⟩
    -- the measure of a state: the least of those that it may be
    let M : Act → World → Nat := fun a w => Classical.epsilon fun n => (∃ i, I i ∧ Sim E.n0 c0 E.N (S i) a w ∧ μ i = n) ∧ ∀ i, I i → Sim E.n0 c0 E.N (S i) a w → n ≤ μ i
    have hM : ∀ a w, (∃ i, I i ∧ Sim E.n0 c0 E.N (S i) a w) → (∃ i, I i ∧ Sim E.n0 c0 E.N (S i) a w ∧ μ i = M a w) ∧ ∀ i, I i → Sim E.n0 c0 E.N (S i) a w → M a w ≤ μ i := by
      intro a w ⟨i, hi, hsi⟩
      have : ∃ n, (∃ i, I i ∧ Sim E.n0 c0 E.N (S i) a w ∧ μ i = n) ∧ ∀ i, I i → Sim E.n0 c0 E.N (S i) a w → n ≤ μ i := by
        obtain ⟨m, ⟨j, j1, j2, j3⟩, hm⟩ := least_of (p := fun n => ∃ i, I i ∧ Sim E.n0 c0 E.N (S i) a w ∧ μ i = n) (μ i) ⟨i, hi, hsi, rfl⟩
        refine ⟨m, ⟨j, j1, j2, j3⟩, fun i' hi' hs' => ?_⟩
        rcases Nat.lt_or_ge (μ i') m with h | h
        · exact absurd ⟨i', hi', hs', rfl⟩ (hm _ h)
        · exact h
      exact Classical.epsilon_spec this
    refine wp_loop (fun a w => ∃ i, I i ∧ Sim E.n0 c0 E.N (S i) a w) M ⟨i0, h0, ent he hs⟩ fun a w hI => ?_
    obtain ⟨⟨i, hi, hsi, hμ⟩, _⟩ := hM a w hI
    refine wp_mono (ih _ (S i) a w (hround i hi) hsi) fun e a' w' ⟨σ', hq, hs'⟩ => ?_
    cases e with
    | normal =>
      obtain ⟨j, hj, hlt, hej⟩ := hq
      have hsj := ent hej hs'
      refine ⟨⟨j, hj, hsj⟩, ?_⟩
      have := (hM a' w' ⟨j, hj, hsj⟩).2 j hj hsj
      omega
    | _ => exact ⟨σ', hq, hs'⟩
end Go.Ab
/-
  Tokens under other names; ends of functions; functions.
-/
namespace Go.Ab
open Go
def subTr (p : List Nat) (m : Nat) (T : List (Nat × AV)) : List (Nat × AV) → Prop
  | [] => True
  | [(d, v)] => lk T d = v.map (nameOf p) ∧ v.okB m = true
  | (d, v) :: T' => (lk T d = v.map (nameOf p) ∧ v.okB m = true) ∧ subTr p m T T'
theorem subTr_lk {p : List Nat} {n0 : Nat} {A' : List AO} {c : Cx} (R : RenOk n0 (nameOf p) c.A A') {T : List (Nat × AV)} {tmps : Array Value} (h : TR c T tmps) : ∀ T' : List (Nat × AV), subTr p A'.length T T' → TR (c.ren (nameOf p) A') T' tmps
  | [], _, n => by show Rel _ .unk _; exact rel_unk
  | [(d, v)], hs, n => by
    unfold lk
    by_cases hd : d = n
    · subst hd; rw [if_pos rfl]
      have hs : lk T d = v.map (nameOf p) ∧ v.okB A'.length = true := hs
      exact ren_rel R v _ hs.2 (by rw [← hs.1]; exact h d)
    · rw [if_neg hd]; exact rel_unk
  | (d, v) :: x :: T', hs, n => by
    unfold lk
    by_cases hd : d = n
    · subst hd; rw [if_pos rfl]
      exact ren_rel R v _ hs.1.2 (by rw [← hs.1.1]; exact h d)
    · rw [if_neg hd]; exact subTr_lk R h (x :: T') hs.2 n
theorem Ent.ren {n0 : Nat} {T T' : List (Nat × AV)} {A A' : List AO} (p : List Nat) (hB : renB p n0 A' = true) (hA : RenA p A A'.length 0 A') (hT : subTr p A'.length T T') : Ent n0 ⟨T, A⟩ ⟨T', A'⟩ := fun c H h hn tmps ht => by
  have h : c.A = A := h
  subst h
  have R := renOk_of hB hA
  obtain ⟨k1, k2⟩ := ren_sound H R
  exact ⟨c.ren (nameOf p) A', rfl, k1, k2, rfl, subTr_lk R ht T' hT⟩
/-! ### what comes out -/
def REnt (n0 : Nat) (r : AV) (A : List AO) (r' : AV) (A' : List AO) : Prop := ∀ c : Cx, HR c → c.A = A → n0 ≤ c.A.length → ∀ v, Rel c r v → ∃ c' : Cx, c'.w = c.w ∧ ExtN n0 c c' ∧ HR c' ∧ c'.A = A' ∧ Rel c' r' v
theorem REnt.refl (n0 : Nat) (r : AV) (A : List AO) : REnt n0 r A r A := fun c H hA hn _v hv => ⟨c, rfl, ExtN.refl hn, H, hA, hv⟩
theorem REnt.trans {n0 : Nat} {r r' r'' : AV} {A A' A'' : List AO} (h : REnt n0 r A r' A') (h' : REnt n0 r' A' r'' A'') : REnt n0 r A r'' A'' := fun c H hA hn v hv => by
  obtain ⟨c1, k1, k2, k3, k4, k5⟩ := h c H hA hn v hv
  obtain ⟨c2, j1, j2, j3, j4, j5⟩ := h' c1 k3 k4 k2.le.len v k5
  exact ⟨c2, j1.trans k1, k2.trans j2, j3, j4, j5⟩
theorem REnt.ren {n0 : Nat} {r r' : AV} {A A' : List AO} (p : List Nat) (hB : renB p n0 A' = true) (hA : RenA p A A'.length 0 A') (hr : r = r'.map (nameOf p) ∧ r'.okB A'.length = true) : REnt n0 r A r' A' := fun c H h hn v hv => by
  subst h
  have R := renOk_of hB hA
  obtain ⟨k1, k2⟩ := ren_sound H R
  exact ⟨c.ren (nameOf p) A', rfl, k1, k2, rfl, ren_rel R r' v hr.2 (by rw [← hr.1]; exact hv)⟩
theorem REnt.drop {r : AV} {A : List AO} (hr : (r.map (nameOf []) = r ∧ r.okB 0 = true)) : REnt 0 r A r [] := REnt.ren [] rfl trivial ⟨hr.1.symm, hr.2⟩
/-! ### functions -/
def resVs (D : Tab) (G : List (Nat × Value)) (A : List AO) (T : List (Nat × AV)) : List ResultVar → Option Prop × List AV
  | [] => (none, [])
  | .tmp t :: l => match resVs D G A T l with
    | (C, vs) => (C, lk T t :: vs)
  | .cell a ty :: l => match aLoad D G A ty (lk T a), resVs D G A T l with
    | (C, v), (C', vs) => (andC C C', v :: vs)
def retV : List AV → AV
  | [v] => v
  | vs => .tup vs
def runL (x : Option Prop × List AV) (K : AV → Prop) : Prop := match x with
  | (none, vs) => forceL vs fun vs' => K (retV vs')
  | (some C, vs) => C ∧ forceL vs fun vs' => K (retV vs')
theorem runL_of {x : Option Prop × List AV} {K : AV → Prop} (h : runL x K) : Hold x.1 ∧ K (retV x.2) := by
  obtain ⟨C, v⟩ := x
  cases C with
  | none => unfold runL at h; simp only [forceL_eq] at h; exact ⟨trivial, h⟩
  | some C => unfold runL at h; simp only [forceL_eq] at h; exact h
def Done (E : Env) (K : AV → List AO → Prop) (r : AV) (A : List AO) : Prop := ∃ r' A', REnt E.n0 r A r' A' ∧ K r' A'
def retQ (E : Env) (rs : List ResultVar) (K : AV → List AO → Prop) : Exit → St → Prop
  | .normal, σ => runL (resVs E.D E.G σ.A σ.T rs) fun r => Done E K r σ.A
  | .ret, σ => runL (resVs E.D E.G σ.A σ.T rs) fun r => Done E K r σ.A
  | _, _ => False
def resOf (tmps : Array Value) (r : ResultVar) : Sem Value := match r with
  | .tmp t => pure (tmps.getD t undef)
  | .cell a t => do loadVar t (← asAddr (tmps.getD a undef))
theorem results_eq (fn : Func) (tmps : Array Value) : results fn tmps = (do let vs ← fn.results.mapM (resOf tmps); pure (if h : vs.size = 1 then vs[0] else .tuple vs)) := by
  unfold results
  have : (fun x => match x with
    | ResultVar.tmp t => (pure (tmps.getD t undef) : Sem Value)
    | ResultVar.cell a t => do loadVar t (← asAddr (tmps.getD a undef))) = resOf tmps := by funext x; cases x <;> rfl
  rw [← this]; rfl
theorem resVs_sound {P : Program} {D : Tab} (hD : TabOk P D) {c : Cx} (H : HR c) {T : List (Nat × AV)} {tmps : Array Value} (hT : TR c T tmps) : ∀ (rs : List ResultVar), Hold (resVs D c.G c.A T rs).1 →
    ∃ vs, (rs.mapM (resOf tmps)).run P c.w = .ok vs c.w ∧ RelL c (resVs D c.G c.A T rs).2 vs
  | [], _ => ⟨[], by simp, by unfold resVs RelL; rfl⟩
  | .tmp t :: l, h => by
    unfold resVs at h
    obtain ⟨vs, h1, h2⟩ := resVs_sound hD H hT l h
    refine ⟨tmps.getD t undef :: vs, ?_, ?_⟩
    · simp only [List.mapM_cons, Sem.run_bind, resOf, Sem.run_pure, Result.andThen_ok, h1]
    · unfold resVs RelL; exact ⟨_, _, rfl, hT t, h2⟩
  | .cell a ty :: l, h => by
    unfold resVs at h
    obtain ⟨g1, g2⟩ := andC_of h
    obtain ⟨vs, h1, h2⟩ := resVs_sound hD H hT l g2
    obtain ⟨v, k1, k2⟩ := aLoad_sound hD H (hT a) g1
    have hrun : (resOf tmps (.cell a ty)).run P c.w = .ok v c.w := by
      unfold resOf
      unfold Instr.loadAt at k1
      cases hv : tmps.getD a undef <;> rw [hv] at k1 <;> try (simp [Instr.sureAddr, stuck] at k1; done)
      rename_i p
      cases p with
      | none => simp [Instr.sureAddr, stuck] at k1
      | some p =>
        simp only [hv]
        simpa [Instr.sureAddr, asAddr] using k1
    refine ⟨v :: vs, ?_, ?_⟩
    · simp only [List.mapM_cons, Sem.run_bind, hrun, Sem.run_pure, Result.andThen_ok, h1]
    · unfold resVs RelL; exact ⟨_, _, rfl, k2, h2⟩
def zipT : List AV → Nat → List (Nat × AV)
  | [], _ => []
  | a :: l, k => (k, a) :: zipT l (k + 1)
theorem zipT_lk : ∀ (l : List AV) (k n : Nat), lk (zipT l k) n = if k ≤ n then l.getD (n - k) .unk else .unk
  | [], k, n => by unfold zipT lk; split <;> simp
  | a :: l, k, n => by
    unfold zipT lk
    by_cases h : k = n
    · subst h; simp
    · rw [if_neg h, zipT_lk l (k + 1) n]
      by_cases h2 : k ≤ n
      · rw [if_pos h2, if_pos (by omega), show n - k = (n - (k + 1)) + 1 by omega]; rfl
      · rw [if_neg h2, if_neg (by omega)]
/-- a function from what its code does -/
theorem acall_wp {E : Env} (ok : EnvOk E) {f : FuncId} {fn : Func} {c : Code} {args : List AV} {A : List AO} {K : AV → List AO → Prop} (hf : E.P.funcs[f]? = some fn) (hb : fn.body = some c) (hnm : (fn.name == "runtime.NumGoroutine") = false) (hN : fn.ntmps = E.N) (hle : Nat.ble args.length E.N = true) (hn0 : A.length = E.n0)
    (h : ∀ (cx : Cx), cx.G = E.G → ∀ a w, Sim E.n0 cx E.N ⟨zipT args 0, A⟩ a w → c.wp E.P (Post E cx (retQ E fn.results.toList K)) a w) : ACall E.P E.G f args A K := by
  refine ⟨trivial, fun cx H hA hG vs hv => .inl ⟨⟨fn, hf, by rw [hb]; rfl, hnm⟩, ?_⟩⟩
  have hvl := hv.length
  have hle := Nat.le_of_ble_eq_true hle
  refine calls_of_wp hf hb ?_
  have hs : Sim E.n0 cx E.N ⟨zipT args 0, A⟩ { tmps := vs.toArray ++ Array.replicate (fn.ntmps - vs.toArray.size) undef, defers := [] } cx.w := by
    refine ⟨cx, rfl, hA, H, fun n => ?_, ExtN.refl (by rw [hA]; omega), rfl, by simp [hN]; omega⟩
    show Rel cx (lk (zipT args 0) n) _
    rw [zipT_lk, if_pos (Nat.zero_le _), Nat.sub_zero]
    by_cases hlt : n < args.length
    · obtain ⟨v, k1, k2⟩ := hv.get _ _ n args[n] (List.getElem?_eq_getElem hlt)
      have e1 : args.getD n .unk = args[n] := getD_of_lt hlt
      rw [e1]
      have : (vs.toArray ++ Array.replicate (fn.ntmps - vs.toArray.size) undef).getD n undef = v := by
        rw [Array.getD_eq_getD_getElem?, Array.getElem?_append_left (by simp; omega)]
        simp [k1]
      rw [this]; exact k2
    · have e1 : args.getD n .unk = .unk := by rw [List.getD, List.getElem?_eq_none (by omega)]; rfl
      rw [e1]; exact rel_unk
  refine wp_mono (h cx hG _ _ hs) fun e a w ⟨σ, hq, c1, hw, hA1, H1, hT1, hE1, hd1, _⟩ => ?_
  have fin : runL (resVs E.D E.G σ.A σ.T fn.results.toList) (fun r => Done E K r σ.A) → a.defers = [] ∧ ∃ v, (results fn a.tmps).run E.P w = .ok v w ∧ ∃ v_1 c' r, Ending.returned v = .returned v_1 ∧ c'.w = w ∧ Ext cx c' ∧ HR c' ∧ Rel c' r v_1 ∧ K r c'.A := by
    intro h
    refine ⟨hd1, ?_⟩
    obtain ⟨hC, hK⟩ := runL_of h
    have hG1 : c1.G = E.G := hE1.G.trans hG
    rw [← hA1, ← hG1] at hC hK
    obtain ⟨us, k1, k2⟩ := resVs_sound ok.tab H1 hT1 fn.results.toList hC
    obtain ⟨r', A', he, hk⟩ := hK
    have hrun : ∃ v, (results fn a.tmps).run E.P w = .ok v w ∧ Rel c1 (retV (resVs E.D c1.G c1.A σ.T fn.results.toList).2) v := by
      rw [hw] at k1
      have hl := k2.length
      have hm : (fn.results.mapM (resOf a.tmps)).run E.P w = .ok us.toArray w := by
        rw [Array.mapM_eq_mapM_toList, Sem.run_map, k1]; rfl
      refine ⟨if h : us.toArray.size = 1 then us.toArray[0] else .tuple us.toArray, ?_, ?_⟩
      · rw [results_eq]
        simp only [Sem.run_bind, hm, Result.andThen_ok, Sem.run_pure]
      · generalize (resVs E.D c1.G c1.A σ.T fn.results.toList).2 = rs at *
        match rs, us, k2, hl with
        | [], [], _, _ => simp; unfold retV Rel; exact ⟨[], rfl, by unfold RelL; rfl⟩
        | [r], [u], h, _ => simp; unfold RelL at h; obtain ⟨v, l, e, h1, _⟩ := h; cases e; exact h1
        | r :: r2 :: rs, u :: u2 :: us, h, _ =>
          rw [dif_neg (by simp)]
          unfold retV Rel
          exact ⟨_, rfl, h⟩
    obtain ⟨v, hv1, hv2⟩ := hrun
    obtain ⟨c2, j1, j2, j3, j4, j5⟩ := he c1 H1 rfl hE1.le.len v hv2
    refine ⟨v, hv1, v, c2, r', rfl, j1.trans hw, ?_, j3, j5, by rw [j4]; exact hk⟩
    have := hE1.trans j2
    rw [← hn0, ← hA] at this
    exact ⟨this.le, this.X, this.G, this.far, this.st⟩
  cases e with
  | normal => exact fin hq
  | ret => exact fin hq
  | _ => exact hq.elim
theorem acall_mk {E : Env} (ok : EnvOk E) {f : FuncId} {fn : Func} {c : Code} {args : List AV} {A : List AO} {K : AV → List AO → Prop} (hf : E.P.funcs[f]? = some fn) (hb : fn.body = some c) (hnm : (fn.name == "runtime.NumGoroutine") = false) (hN : fn.ntmps = E.N) (hle : Nat.ble args.length E.N = true) (hn0 : A.length = E.n0)
    (h : awp E c (retQ E fn.results.toList K) ⟨zipT args 0, A⟩) : ACall E.P E.G f args A K :=
  acall_wp ok hf hb hnm hN hle hn0 fun cx hG _ _ hs => awp_sound ok cx hG c _ _ _ _ h hs
/-- by a goto: to the label, in one of these states -/
def gotoQ {ι : Type} (n0 l : Nat) (S : ι → St) (I : ι → Prop) (Q : Exit → St → Prop) : Exit → St → Prop
  | .goto m, σ => l = m ∧ ∃ i, I i ∧ Ent n0 σ (S i)
  | e, σ => Q e σ
def noGoto (Q : Exit → St → Prop) : Exit → St → Prop
  | .goto _, _ => False
  | e, σ => Q e σ
/-- a function whose whole body is a scope with a label that is jumped to, forward only -/
theorem acall_mkS {E : Env} (ok : EnvOk E) {f : FuncId} {fn : Func} {c rest : Code} {args : List AV} {A : List AO} {K : AV → List AO → Prop} (l : Nat) {ι : Type} (S : ι → St) (I : ι → Prop) (hf : E.P.funcs[f]? = some fn) (hb : fn.body = some (.scope c)) (hl : findLabel c l = some rest) (hnm : (fn.name == "runtime.NumGoroutine") = false) (hN : fn.ntmps = E.N) (hle : Nat.ble args.length E.N = true) (hn0 : A.length = E.n0)
    (h : awp E c (gotoQ E.n0 l S I (retQ E fn.results.toList K)) ⟨zipT args 0, A⟩) (h2 : ∀ i, I i → awp E rest (noGoto (retQ E fn.results.toList K)) (S i)) : ACall E.P E.G f args A K := by
  refine acall_wp ok hf hb hnm hN hle hn0 fun cx hG a w hs => ?_
  have ent : ∀ {σ σ' : St} {a : Act} {w : World}, Ent E.n0 σ σ' → Sim E.n0 cx E.N σ a w → Sim E.n0 cx E.N σ' a w := by
    intro σ σ' a w he ⟨cy, hw, hA, H, hT, hE, hd, hN⟩
    obtain ⟨c', k1, k2, k3, k4, k5⟩ := he cy H hA hE.le.len _ hT
    exact ⟨c', k1.trans hw, k4, k3, k5, hE.trans k2, hd, hN⟩
  refine wp_scope_jumps l (fun a w => ∃ i, I i ∧ Sim E.n0 cx E.N (S i) a w) (fun _ _ => 0) hl ?_ ?_
  · refine wp_mono (awp_sound ok cx hG c _ _ _ _ h hs) fun e a w ⟨σ, hq, hs'⟩ => ?_
    cases e with
    | goto m => obtain ⟨rfl, i, hi, he⟩ := hq; exact ⟨rfl, i, hi, ent he hs'⟩
    | _ => exact ⟨σ, hq, hs'⟩
  · intro a w ⟨i, hi, hs'⟩
    refine wp_mono (awp_sound ok cx hG rest _ _ _ _ (h2 i hi) hs') fun e a w ⟨σ, hq, hs'⟩ => ?_
    cases e with
    | goto m => exact hq.elim
    | _ => exact ⟨σ, hq, hs'⟩
end Go.Ab
/-
  A call whose function knows of few objects, in a place that knows of more.
-/
namespace Go.Ab
open Go
/-! ### forward -/
structure Fw (f : Nat → Nat) (c c2 : Cx) : Prop where
  I : ∀ b, c.I b → c2.I b
  w : c2.w = c.w
  tok : ∀ (t : Nat) o, c.A[t]? = some o → c2.A[f t]? = some (mapO f o) ∧ (o.live = true → c2.ρ (f t) = c.ρ t)
section
variable {f : Nat → Nat} {c c2 : Cx}
theorem fw_fz (F : Fw f c c2) {t : Ty} {x : t.den} {vs : List Value} (h : FzC c.I c.w t x vs) : FzC c2.I c2.w t x vs := h.mono fun b hb _ => ⟨F.I b hb, by rw [F.w]⟩
mutual
theorem fw_rel (F : Fw f c c2) : ∀ (a : AV) (v : Value), Rel c a v → Rel c2 (a.map f) v
  | .fz t x, v, h => by
    unfold AV.map; unfold Rel at *
    obtain ⟨cs, h1, h2⟩ := h
    exact ⟨cs, fw_fz F h1, h2⟩
  | .fptr t x, v, h => by
    unfold AV.map; unfold Rel at *
    obtain ⟨b, off, cs, h1, h2, h3, h4, h5⟩ := h
    exact ⟨b, off, cs, h1, F.I b h2, by rw [F.w]; exact h3, fw_fz F h4, by rw [F.w]; exact h5⟩
  | .ref tok off len, v, h => by
    unfold AV.map; unfold Rel at *
    cases ho : c.A[tok]? with
    | none => rw [ho] at h; exact h.elim
    | some o =>
      obtain ⟨k1, k2⟩ := F.tok tok o ho
      rw [ho] at h
      rw [k1]
      cases o with
      | dead => trivial
      | room => exact h
      | box vs => trivial
      | mapo i vs => trivial
      | row e xs =>
        have k2 := k2 rfl
        simp only [mapO] at h ⊢
        rw [k2, F.w]; exact h
  | .nilSl, v, h => by unfold AV.map; unfold Rel at *; exact h
  | .ptr tok off, v, h => by
    unfold AV.map; unfold Rel at *
    cases ho : c.A[tok]? with
    | none => rw [ho] at h; exact h.elim
    | some o =>
      obtain ⟨k1, k2⟩ := F.tok tok o ho
      rw [ho] at h
      rw [k1]
      cases o with
      | dead => trivial
      | room => exact h
      | row e xs => exact h
      | box vs =>
        have k2 := k2 rfl
        simp only [mapO] at h ⊢
        rw [k2]; exact h
      | mapo i vs =>
        have k2 := k2 rfl
        simp only [mapO] at h ⊢
        rw [k2]; exact h
  | .elt tok i off, v, h => by
    unfold AV.map; unfold Rel at *
    cases ho : c.A[tok]? with
    | none => rw [ho] at h; exact h.elim
    | some o =>
      obtain ⟨k1, k2⟩ := F.tok tok o ho
      rw [ho] at h
      rw [k1]
      cases o with
      | dead => trivial
      | room => exact h
      | box vs => trivial
      | mapo i vs => trivial
      | row e xs =>
        have k2 := k2 rfl
        simp only [mapO] at h ⊢
        rw [k2]; exact h
  | .glob g, v, h => by unfold AV.map; unfold Rel at *; exact h
  | .agg l, v, h => by
    unfold AV.map; unfold Rel at *
    obtain ⟨vs, h1, h2⟩ := h
    exact ⟨vs, h1, fw_relL F l vs h2⟩
  | .tup l, v, h => by
    unfold AV.map; unfold Rel at *
    obtain ⟨vs, h1, h2⟩ := h
    exact ⟨vs, h1, fw_relL F l vs h2⟩
  | .fn g l, v, h => by
    unfold AV.map; unfold Rel at *
    obtain ⟨vs, h1, h2⟩ := h
    exact ⟨vs, h1, fw_relL F l vs h2⟩
  | .ifc t a, v, h => by
    unfold AV.map; unfold Rel at *
    obtain ⟨u, h1, h2⟩ := h
    exact ⟨u, h1, fw_rel F a u h2⟩
  | .opt g a, v, h => by
    unfold AV.map; unfold Rel at *
    exact ⟨fun hg => fw_rel F a v (h.1 hg), h.2⟩
  | .unk, v, _ => by unfold AV.map; unfold Rel; trivial
theorem fw_relL (F : Fw f c c2) : ∀ (l : List AV) (vs : List Value), RelL c l vs → RelL c2 (mapL f l) vs
  | [], vs, h => by unfold mapL; exact h
  | a :: l, vs, h => by
    unfold mapL
    unfold RelL at *
    obtain ⟨v, r, e, h1, h2⟩ := h
    exact ⟨v, r, e, fw_rel F a v h1, fw_relL F l r h2⟩
end
theorem fw_obj (F : Fw f c c2) {r : Option Nat} {o : AO} (h : ObjOk c r o) : ObjOk c2 r (mapO f o) := by
  cases o with
  | dead => trivial
  | room => trivial
  | row e xs =>
    rcases h with h | ⟨b, cs, et, h1, h2, h3⟩
    · exact .inl h
    · refine .inr ⟨b, cs, et, h1, by rw [F.w]; exact h2, fun i hi => ?_⟩
      obtain ⟨ds, k1, k2⟩ := h3 i hi
      exact ⟨ds, fw_fz F k1, k2⟩
  | box vs =>
    obtain ⟨b, cs, et, h1, h2, h3⟩ := h
    exact ⟨b, cs, et, h1, by rw [F.w]; exact h2, fw_relL F vs cs h3⟩
  | mapo i vs =>
    obtain ⟨b, ob, us, h1, h2, h4, h3⟩ := h
    exact ⟨b, ob, us, h1, by rw [F.w]; exact h2, h4, fw_relL F vs us h3⟩
end
/-! ### backward -/
structure Bw (π : Nat → Nat) (c c2 : Cx) : Prop where
  I : ∀ b, c.I b → c2.I b
  w : c2.w = c.w
  tok : ∀ (t : Nat) o, c2.A[t]? = some o → o.live = true → c.A[π t]? = some (mapO π o) ∧ c2.ρ t = c.ρ (π t)
  room : ∀ (t : Nat), c2.A[t]? = some .room → c.A[π t]? = some .room
section
variable {π : Nat → Nat} {c c2 : Cx}
theorem bw_fz (B : Bw π c c2) {t : Ty} {x : t.den} {vs : List Value} (h : FzC c.I c.w t x vs) : FzC c2.I c2.w t x vs := h.mono fun b hb _ => ⟨B.I b hb, by rw [B.w]⟩
mutual
theorem bw_rel (B : Bw π c c2) : ∀ (a : AV) (v : Value), a.okB c2.A.length = true → Rel c (a.map π) v → Rel c2 a v
  | .fz t x, v, _, h => by
    unfold AV.map at h; unfold Rel at *
    obtain ⟨cs, h1, h2⟩ := h
    exact ⟨cs, bw_fz B h1, h2⟩
  | .fptr t x, v, _, h => by
    unfold AV.map at h; unfold Rel at *
    obtain ⟨b, off, cs, h1, h2, h3, h4, h5⟩ := h
    exact ⟨b, off, cs, h1, B.I b h2, by rw [B.w]; exact h3, bw_fz B h4, by rw [B.w]; exact h5⟩
  | .ref tok off len, v, hok, h => by
    unfold AV.map at h; unfold AV.okB at hok; unfold Rel at *
    have hlt := blt_of hok
    have hA : c2.A[tok]? = some c2.A[tok] := List.getElem?_eq_getElem hlt
    rw [hA]
    cases ho : c2.A[tok] with
    | dead => trivial
    | room =>
      rw [ho] at hA
      rw [B.room tok hA] at h; exact h.elim
    | box vs => trivial
    | mapo i vs => trivial
    | row e xs =>
      rw [ho] at hA
      obtain ⟨k1, k2⟩ := B.tok tok _ hA rfl
      rw [k1] at h
      simp only [mapO] at h ⊢
      rw [k2, B.w]; exact h
  | .nilSl, v, _, h => by unfold AV.map at h; unfold Rel at *; exact h
  | .ptr tok off, v, hok, h => by
    unfold AV.map at h; unfold AV.okB at hok; unfold Rel at *
    have hlt := blt_of hok
    have hA : c2.A[tok]? = some c2.A[tok] := List.getElem?_eq_getElem hlt
    rw [hA]
    cases ho : c2.A[tok] with
    | dead => trivial
    | room =>
      rw [ho] at hA
      rw [B.room tok hA] at h; exact h.elim
    | row e xs =>
      rw [ho] at hA
      obtain ⟨k1, k2⟩ := B.tok tok _ hA rfl
      rw [k1] at h
      exact h
    | box vs =>
      rw [ho] at hA
      obtain ⟨k1, k2⟩ := B.tok tok _ hA rfl
      rw [k1] at h
      simp only [mapO] at h ⊢
      rw [k2]; exact h
    | mapo i vs =>
      rw [ho] at hA
      obtain ⟨k1, k2⟩ := B.tok tok _ hA rfl
      rw [k1] at h
      simp only [mapO] at h ⊢
      rw [k2]; exact h
  | .elt tok i off, v, hok, h => by
    unfold AV.map at h; unfold AV.okB at hok; unfold Rel at *
    have hlt := blt_of hok
    have hA : c2.A[tok]? = some c2.A[tok] := List.getElem?_eq_getElem hlt
    rw [hA]
    cases ho : c2.A[tok] with
    | dead => trivial
    | room =>
      rw [ho] at hA
      rw [B.room tok hA] at h; exact h.elim
    | box vs => trivial
    | mapo i vs => trivial
    | row e xs =>
      rw [ho] at hA
      obtain ⟨k1, k2⟩ := B.tok tok _ hA rfl
      rw [k1] at h
      simp only [mapO] at h ⊢
      rw [k2]; exact h
  | .glob g, v, _, h => by unfold AV.map at h; unfold Rel at *; exact h
  | .agg l, v, hok, h => by
    unfold AV.map at h; unfold AV.okB at hok; unfold Rel at *
    obtain ⟨vs, h1, h2⟩ := h
    exact ⟨vs, h1, bw_relL B l vs hok h2⟩
  | .tup l, v, hok, h => by
    unfold AV.map at h; unfold AV.okB at hok; unfold Rel at *
    obtain ⟨vs, h1, h2⟩ := h
    exact ⟨vs, h1, bw_relL B l vs hok h2⟩
  | .fn g l, v, hok, h => by
    unfold AV.map at h; unfold AV.okB at hok; unfold Rel at *
    obtain ⟨vs, h1, h2⟩ := h
    exact ⟨vs, h1, bw_relL B l vs hok h2⟩
  | .ifc t a, v, hok, h => by
    unfold AV.map at h; unfold AV.okB at hok; unfold Rel at *
    obtain ⟨u, h1, h2⟩ := h
    exact ⟨u, h1, bw_rel B a u hok h2⟩
  | .opt g a, v, hok, h => by
    unfold AV.map at h; unfold AV.okB at hok; unfold Rel at *
    exact ⟨fun hg => bw_rel B a v hok (h.1 hg), h.2⟩
  | .unk, v, _, _ => by unfold Rel; trivial
theorem bw_relL (B : Bw π c c2) : ∀ (l : List AV) (vs : List Value), okLB c2.A.length l = true → RelL c (mapL π l) vs → RelL c2 l vs
  | [], vs, _, h => by unfold mapL at h; exact h
  | a :: l, vs, hok, h => by
    unfold okLB at hok
    simp only [Bool.and_eq_true] at hok
    unfold mapL at h
    unfold RelL at *
    obtain ⟨v, r, e, h1, h2⟩ := h
    exact ⟨v, r, e, bw_rel B a v hok.1 h1, bw_relL B l r hok.2 h2⟩
end
end
/-! ### the frame -/
/-- names within a call as names without -/
def frN (p : List Nat) (n : Nat) (i : Nat) : Nat := match p[i]? with
  | some q => q
  | none => n + (i - p.length)
def mapOs (f : Nat → Nat) : List AO → List AO
  | [] => []
  | o :: A => mapO f o :: mapOs f A
def updA (f : Nat → Nat) : List AO → List Nat → List AO → List AO
  | A, [], As => A ++ mapOs f As
  | A, q :: p, o :: As => updA f (A.set q (mapO f o)) p As
  | A, _ :: _, [] => A
def FrA (f : Nat → Nat) (A : List AO) : List Nat → List AO → Prop
  | [], [] => True
  | q :: p, o :: As => (A[q]? = some (mapO f o) ∧ (match o with | .box vs => okLB (As.length + p.length + 1) vs = true | .mapo _ vs => okLB (As.length + p.length + 1) vs = true | _ => True)) ∧ FrA f A p As
  | _, _ => False
def memB (q : Nat) : List Nat → Bool
  | [] => false
  | x :: l => Nat.beq x q || memB q l
def ndB : List Nat → Bool
  | [] => true
  | q :: p => !memB q p && ndB p
def frB (p : List Nat) (n : Nat) : Bool := (p.all fun q => Nat.blt q n) && ndB p
theorem memB_of {q : Nat} : ∀ {l : List Nat}, q ∈ l → memB q l = true
  | x :: l, h => by
    unfold memB
    rcases List.mem_cons.1 h with rfl | h
    · simp
    · rw [memB_of h]; simp
theorem ndB_of : ∀ {l : List Nat}, ndB l = true → l.Nodup
  | [], _ => List.nodup_nil
  | q :: p, h => by
    unfold ndB at h
    simp only [Bool.and_eq_true, Bool.not_eq_true'] at h
    rw [List.nodup_cons]
    exact ⟨fun hm => by rw [memB_of hm] at h; exact absurd h.1 (by simp), ndB_of h.2⟩
theorem mapOs_at (f : Nat → Nat) : ∀ (A : List AO) (i : Nat), (mapOs f A)[i]? = (A[i]?).map (mapO f)
  | [], i => by simp [mapOs]
  | o :: A, 0 => by simp [mapOs]
  | o :: A, i + 1 => by simp [mapOs, mapOs_at f A i]
theorem mapOs_len (f : Nat → Nat) : ∀ A : List AO, (mapOs f A).length = A.length
  | [] => rfl
  | o :: A => by simp [mapOs, mapOs_len f A]
theorem updA_len (f : Nat → Nat) : ∀ (p : List Nat) (A As : List AO), p.length ≤ As.length → (updA f A p As).length = A.length + (As.length - p.length)
  | [], A, As, _ => by simp [updA, mapOs_len]
  | q :: p, A, [], h => by simp at h
  | q :: p, A, o :: As, h => by
    unfold updA
    rw [updA_len f p _ As (by simpa using h)]
    simp
theorem updA_new (f : Nat → Nat) : ∀ (p : List Nat) (A As : List AO) (i : Nat), p.length ≤ As.length → (updA f A p As)[A.length + i]? = (As[p.length + i]?).map (mapO f)
  | [], A, As, i, _ => by unfold updA; rw [List.getElem?_append_right (by omega)]; simp [mapOs_at]
  | q :: p, A, [], i, h => by simp at h
  | q :: p, A, o :: As, i, h => by
    unfold updA
    have := updA_new f p (A.set q (mapO f o)) As i (by simpa using h)
    rw [List.length_set] at this
    rw [this, List.length_cons, show p.length + 1 + i = (p.length + i) + 1 by omega, List.getElem?_cons_succ]
theorem updA_other (f : Nat → Nat) : ∀ (p : List Nat) (A As : List AO) (t : Nat), t < A.length → t ∉ p → p.length ≤ As.length → (updA f A p As)[t]? = A[t]?
  | [], A, As, t, h, _, _ => by unfold updA; rw [List.getElem?_append_left h]
  | q :: p, A, [], t, _, _, h => by simp at h
  | q :: p, A, o :: As, t, h, hp, hl => by
    unfold updA
    simp only [List.mem_cons, not_or] at hp
    rw [updA_other f p _ As t (by simpa using h) hp.2 (by simpa using hl), List.getElem?_set_ne (fun e => hp.1 e.symm)]
theorem updA_in (f : Nat → Nat) : ∀ (p : List Nat) (A As : List AO) (i q : Nat), p[i]? = some q → q < A.length → p.Nodup → p.length ≤ As.length → (updA f A p As)[q]? = (As[i]?).map (mapO f)
  | [], A, As, i, q, h, _, _, _ => by simp at h
  | q0 :: p, A, [], i, q, _, _, _, h => by simp at h
  | q0 :: p, A, o :: As, 0, q, h, hq, hn, hl => by
    simp at h; subst h
    unfold updA
    rw [List.nodup_cons] at hn
    rw [updA_other f p _ As q0 (by simpa using hq) hn.1 (by simpa using hl), List.getElem?_set_self hq]; rfl
  | q0 :: p, A, o :: As, i + 1, q, h, hq, hn, hl => by
    unfold updA
    rw [List.nodup_cons] at hn
    rw [updA_in f p _ As i q (by simpa using h) (by simpa using hq) hn.2 (by simpa using hl)]; simp
theorem frA_at {f : Nat → Nat} {A : List AO} : ∀ {p : List Nat} {As : List AO}, FrA f A p As → p.length = As.length ∧ ∀ (i q : Nat), p[i]? = some q → ∃ o, As[i]? = some o ∧ A[q]? = some (mapO f o)
  | [], [], _ => ⟨rfl, fun i q h => by simp at h⟩
  | [], _ :: _, h => h.elim
  | _ :: _, [], h => h.elim
  | q0 :: p, o :: As, h => by
    obtain ⟨h1, h2⟩ := frA_at h.2
    refine ⟨by simp [h1], fun i q hi => ?_⟩
    cases i with
    | zero => simp at hi; subst hi; exact ⟨o, rfl, h.1.1⟩
    | succ i => obtain ⟨o', k1, k2⟩ := h2 i q (by simpa using hi); exact ⟨o', by simpa using k1, k2⟩
theorem okLB_mono {n m : Nat} (h : n = m) {l : List AV} (hl : okLB n l = true) : okLB m l = true := by subst h; exact hl
theorem frB_of {p : List Nat} {n : Nat} (h : frB p n = true) : (∀ q ∈ p, q < n) ∧ p.Nodup := by
  unfold frB at h
  simp only [Bool.and_eq_true] at h
  exact ⟨fun q hq => blt_of (List.all_eq_true.1 h.1 q hq), ndB_of h.2⟩
theorem nodup_inj {p : List Nat} (hn : p.Nodup) {i j q : Nat} (hi : p[i]? = some q) (hj : p[j]? = some q) : i = j := by
  have hi' := get_lt hi
  have hj' := get_lt hj
  rw [List.getElem?_eq_getElem hi'] at hi
  rw [List.getElem?_eq_getElem hj'] at hj
  exact (List.getElem_inj hn).1 ((Option.some.inj hi).trans (Option.some.inj hj).symm)
theorem acall_frame {P : Program} {G : List (Nat × Value)} {f : FuncId} {args : List AV} {A : List AO} {K : AV → List AO → Prop} (p : List Nat) (As : List AO) (args' : List AV)
    (hB : frB p A.length = true) (hA : FrA (nameOf p) A p As) (hok : okLB As.length args' = true ∧ As.all (fun o => match o with | .box vs => okLB As.length vs | .mapo _ vs => okLB As.length vs | _ => true) = true) (hargs : args = mapL (nameOf p) args')
    (h : ACall P G f args' As fun r As' => K (r.map (frN p A.length)) (updA (frN p A.length) A p As')) : ACall P G f args A K := by
  refine ⟨h.body, fun c H hcA hG vs hv => ?_⟩
  subst hcA
  obtain ⟨hpl, hpn⟩ := frB_of hB
  obtain ⟨hlen, hat⟩ := frA_at hA
  have nm : ∀ i q, p[i]? = some q → nameOf p i = q := fun i q hi => by unfold nameOf; rw [List.getD, hi]; rfl
  -- the callee's state
  let cs : Cx := { ρ := fun i => c.ρ (nameOf p i), A := As, X := fun b => c.X b ∨ ∃ t, c.live t ∧ t ∉ p ∧ c.ρ t = some b, w := c.w, G := c.G }
  have csA : ∀ (i : Nat) o, As[i]? = some o → ∃ q, p[i]? = some q ∧ nameOf p i = q ∧ c.A[q]? = some (mapO (nameOf p) o) := fun i o hi => by
    have hlt : i < p.length := by have := get_lt hi; omega
    obtain ⟨o', k1, k2⟩ := hat i p[i] (List.getElem?_eq_getElem hlt)
    rw [hi] at k1; cases k1
    exact ⟨p[i], List.getElem?_eq_getElem hlt, nm _ _ (List.getElem?_eq_getElem hlt), k2⟩
  have csLive : ∀ i, cs.live i → c.live (nameOf p i) ∧ nameOf p i ∈ p := fun i ⟨o, h1, h2⟩ => by
    obtain ⟨q, k1, k2, k3⟩ := csA i o h1
    exact ⟨⟨_, by rw [k2]; exact k3, mapO_live h2⟩, by rw [k2]; exact List.mem_of_getElem? k1⟩
  have csI : ∀ b, c.I b → cs.I b := fun b hb => by
    refine ⟨?_, fun i hi => hb.2 _ (csLive i hi).1⟩
    rintro (hx | ⟨t, h1, _, h3⟩)
    · exact hb.1 hx
    · exact hb.2 t h1 h3
  have B : Bw (nameOf p) c cs := ⟨csI, rfl, fun t o h1 h2 => by
    obtain ⟨q, k1, k2, k3⟩ := csA t o h1
    exact ⟨by rw [k2]; exact k3, rfl⟩, fun t h1 => by
    obtain ⟨q, k1, k2, k3⟩ := csA t _ h1
    rw [k2]; exact k3⟩
  have Hs : HR cs := by
    refine ⟨fun i b hi hb => ?_, fun i j b hi hj h1 h2 => ?_, fun i o hi => ?_, fun b hb => ?_, fun g v hgv => ?_⟩
    · obtain ⟨l1, l2⟩ := csLive i hi
      rintro (hx | ⟨t, h1, h2, h3⟩)
      · exact H.far _ b l1 hb hx
      · have := H.inj _ t b l1 h1 hb h3
        rw [this] at l2; exact h2 l2
    · have := H.inj _ _ b (csLive i hi).1 (csLive j hj).1 h1 h2
      obtain ⟨o, h3, _⟩ := hi
      obtain ⟨o', h4, _⟩ := hj
      obtain ⟨q, k1, k2, _⟩ := csA i o h3
      obtain ⟨q', j1, j2, _⟩ := csA j o' h4
      rw [k2, j2] at this
      subst this
      exact nodup_inj hpn k1 j1
    · obtain ⟨q, k1, k2, k3⟩ := csA i o hi
      have ho := H.obj q _ k3
      show ObjOk cs (c.ρ (nameOf p i)) o
      rw [k2]
      cases o with
      | dead => trivial
      | room => trivial
      | row e xs =>
        rcases ho with h | ⟨b, cells, et, h1, h2, h3⟩
        · exact .inl h
        · refine .inr ⟨b, cells, et, h1, h2, fun j hj => ?_⟩
          obtain ⟨ds, j1, j2⟩ := h3 j hj
          exact ⟨ds, bw_fz B j1, j2⟩
      | box us =>
        obtain ⟨b, cells, et, h1, h2, h3⟩ := ho
        refine ⟨b, cells, et, h1, h2, bw_relL B us cells ?_ h3⟩
        have := List.all_eq_true.1 hok.2 _ (List.mem_of_getElem? hi)
        exact this
      | mapo i us =>
        obtain ⟨b, ob, cells, h1, h2, h4, h3⟩ := ho
        refine ⟨b, ob, cells, h1, h2, h4, bw_relL B us cells ?_ h3⟩
        have := List.all_eq_true.1 hok.2 _ (List.mem_of_getElem? hi)
        exact this
    · rcases hb with hx | ⟨t, h1, _, h3⟩
      · exact H.old b hx
      · exact H.lt h1 h3
    · exact (H.glo g v hgv).mono fun b hb _ => ⟨csI b hb, rfl⟩
  have hvs : RelL cs args' vs := bw_relL B args' vs hok.1 (by rw [← hargs]; exact hv)
  refine (h.run cs Hs rfl hG vs hvs).mono fun e w' ⟨v, c1, r, he, hw, E1, H1, hr, hK⟩ => ?_
  have hk1 : p.length ≤ c1.A.length := by have := E1.le.len; rw [hlen]; exact this
  -- the caller's state
  let ix : Nat → Option Nat := fun t => p.idxOf? t
  have ixS : ∀ t i, ix t = some i → p[i]? = some t := fun t i h => by
    obtain ⟨hlt, he, _⟩ := List.idxOf?_eq_some_iff.1 h
    rw [List.getElem?_eq_getElem hlt, he]
  have ixN : ∀ t, ix t = none → t ∉ p := fun t h => List.idxOf?_eq_none_iff.1 h
  have ixI : ∀ (i t : Nat), p[i]? = some t → ix t = some i := fun i t h => by
    cases hx : ix t with
    | none => exact absurd (List.mem_of_getElem? h) (ixN t hx)
    | some j => rw [nodup_inj hpn (ixS t j hx) h]
  have hXs : ∀ b, c1.X b ↔ (c.X b ∨ ∃ t, c.live t ∧ t ∉ p ∧ c.ρ t = some b) := fun b => by rw [E1.X]
  let c2 : Cx := { ρ := fun t => match ix t with | some i => c1.ρ i | none => if t < c.A.length then c.ρ t else c1.ρ (p.length + (t - c.A.length)), A := updA (frN p c.A.length) c.A p c1.A, X := c.X, w := c1.w, G := c.G }
  have len2 : c2.A.length = c.A.length + (c1.A.length - p.length) := updA_len _ p c.A c1.A hk1
  have fN : ∀ i, i < c1.A.length → (∃ q, p[i]? = some q ∧ frN p c.A.length i = q) ∨ (p.length ≤ i ∧ frN p c.A.length i = c.A.length + (i - p.length)) := fun i _ => by
    unfold frN
    cases hp : p[i]? with
    | some q => exact .inl ⟨q, rfl, rfl⟩
    | none => exact .inr ⟨List.getElem?_eq_none_iff.1 hp, rfl⟩
  -- within to without
  have tok2 : ∀ (i : Nat) o, c1.A[i]? = some o → c2.A[frN p c.A.length i]? = some (mapO (frN p c.A.length) o) ∧ c2.ρ (frN p c.A.length i) = c1.ρ i := fun i o hi => by
    rcases fN i (get_lt hi) with ⟨q, h1, h2⟩ | ⟨h1, h2⟩
    · rw [h2]
      refine ⟨?_, ?_⟩
      · show (updA _ _ _ _)[q]? = _
        rw [updA_in _ p c.A c1.A i q h1 (hpl q (List.mem_of_getElem? h1)) hpn hk1, hi]; rfl
      · show (match ix q with | some i => c1.ρ i | none => _) = _
        rw [ixI i q h1]
    · rw [h2]
      refine ⟨?_, ?_⟩
      · show (updA _ _ _ _)[c.A.length + (i - p.length)]? = _
        rw [updA_new _ p c.A c1.A _ hk1, show p.length + (i - p.length) = i by omega, hi]; rfl
      · show (match ix (c.A.length + (i - p.length)) with | some i => c1.ρ i | none => _) = _
        cases hx : ix (c.A.length + (i - p.length)) with
        | some j => have := hpl _ (List.mem_of_getElem? (ixS _ _ hx)); omega
        | none =>
          simp only
          rw [if_neg (by omega), show p.length + (c.A.length + (i - p.length) - c.A.length) = i by omega]
  -- without: an old one, or one within
  have back : ∀ t, t < c2.A.length → (t < c.A.length ∧ t ∉ p ∧ c2.A[t]? = c.A[t]? ∧ c2.ρ t = c.ρ t) ∨ ∃ i o, c1.A[i]? = some o ∧ frN p c.A.length i = t ∧ c2.A[t]? = some (mapO (frN p c.A.length) o) ∧ c2.ρ t = c1.ρ i := fun t ht => by
    rw [len2] at ht
    have inn : ∀ i, i < c1.A.length → frN p c.A.length i = t → ∃ i o, c1.A[i]? = some o ∧ frN p c.A.length i = t ∧ c2.A[t]? = some (mapO (frN p c.A.length) o) ∧ c2.ρ t = c1.ρ i := fun i hi hf => by
      obtain ⟨k1, k2⟩ := tok2 i _ (List.getElem?_eq_getElem hi)
      rw [hf] at k1 k2
      exact ⟨i, _, List.getElem?_eq_getElem hi, hf, k1, k2⟩
    by_cases hlt : t < c.A.length
    · cases hx : ix t with
      | none =>
        have hnp := ixN t hx
        refine .inl ⟨hlt, hnp, updA_other _ p c.A c1.A t hlt hnp hk1, ?_⟩
        show (match ix t with | some i => c1.ρ i | none => _) = _
        rw [hx]; simp only; rw [if_pos hlt]
      | some i =>
        have hp := ixS t i hx
        exact .inr (inn i (by have := get_lt hp; omega) (by unfold frN; rw [hp]))
    · exact .inr (inn (p.length + (t - c.A.length)) (by omega) (by
        unfold frN
        rw [List.getElem?_eq_none (by omega)]
        simp only; omega))
  have fInj : ∀ (i j : Nat), i < c1.A.length → j < c1.A.length → frN p c.A.length i = frN p c.A.length j → i = j := fun i j hi hj h => by
    rcases fN i hi with ⟨q, h1, h2⟩ | ⟨h1, h2⟩ <;> rcases fN j hj with ⟨q', h3, h4⟩ | ⟨h3, h4⟩
    · rw [h2, h4] at h; subst h; exact nodup_inj hpn h1 h3
    · have := hpl _ (List.mem_of_getElem? h1); omega
    · have := hpl _ (List.mem_of_getElem? h3); omega
    · omega
  have live2 : ∀ t, c2.live t → (t < c.A.length ∧ t ∉ p ∧ c.live t ∧ c2.ρ t = c.ρ t) ∨ ∃ i, c1.live i ∧ frN p c.A.length i = t ∧ c2.ρ t = c1.ρ i := fun t ht => by
    have hlt := live_lt ht
    obtain ⟨o, h1, h2⟩ := ht
    rcases back t hlt with ⟨k1, k2, k3, k4⟩ | ⟨i, o', k1, k2, k3, k4⟩
    · rw [k3] at h1; exact .inl ⟨k1, k2, ⟨o, h1, h2⟩, k4⟩
    · rw [k3] at h1; cases h1
      exact .inr ⟨i, ⟨o', k1, by cases o' <;> first | rfl | cases h2⟩, k2, k4⟩
  have I2 : ∀ b, c1.I b → c2.I b := fun b hb => by
    have hx := fun h => hb.1 ((hXs b).2 h)
    refine ⟨fun h => hx (.inl h), fun t ht he => ?_⟩
    rcases live2 t ht with ⟨k1, k2, k3, k4⟩ | ⟨i, k1, k2, k3⟩
    · rw [k4] at he; exact hx (.inr ⟨t, k3, k2, he⟩)
    · rw [k3] at he; exact hb.2 i k1 he
  have F : Fw (frN p c.A.length) c1 c2 := ⟨I2, rfl, fun i o hi => ⟨(tok2 i o hi).1, fun _ => (tok2 i o hi).2⟩⟩
  have E2 : Ext c c2 := by
    refine ⟨⟨fun b hb hlt => ?_, fun t ht => ?_, by rw [len2]; omega⟩, rfl, rfl, fun b hb => E1.far b (.inl hb), E1.st⟩
    · obtain ⟨k1, k2⟩ := E1.le.I b (csI b hb) hlt
      exact ⟨I2 b k1, k2⟩
    · unfold TokLe
      rcases back t (by rw [len2]; omega) with ⟨k1, k2, k3, k4⟩ | ⟨i, o, k1, k2, k3, k4⟩
      · rw [k3]
        cases ho : c.A[t]? with
        | none => rw [List.getElem?_eq_none_iff] at ho; omega
        | some o =>
          cases o with
          | dead => trivial
          | room => rfl
          | box us => exact .inl ⟨⟨us, rfl⟩, k4⟩
          | mapo i us => exact .inl ⟨⟨i, us, rfl, rfl⟩, k4⟩
          | row e xs =>
            refine .inl ⟨⟨xs, rfl⟩, k4, fun b cells et hb hh => ⟨cells, ?_, rfl⟩⟩
            rw [← hh]
            exact E1.far b (.inr ⟨t, ⟨_, ho, rfl⟩, k2, hb⟩)
      · rcases fN i (get_lt k1) with ⟨q, h1, h2⟩ | ⟨h1, h2⟩
        · have hqt : q = t := h2.symm.trans k2
          subst hqt
          have hi : i < As.length := by have := get_lt h1; omega
          have htok := E1.le.tok i hi
          unfold TokLe at htok
          rw [k1] at htok
          rw [k3]
          obtain ⟨o0, m1, m2⟩ := hat i q h1
          cases o with
          | dead => trivial
          | room =>
            have n1 : As[i]? = some .room := htok
            rw [m1] at n1; cases n1
            exact m2
          | row e xs =>
            simp only [mapO] at htok ⊢
            rcases htok with ⟨⟨xs0, n1⟩, n2, n3⟩ | n1
            rotate_left
            · have n1 : As[i]? = some .room := n1
              rw [m1] at n1; cases n1
              exact .inr m2
            have n1 : As[i]? = some (.row e xs0) := n1
            rw [m1] at n1; cases n1
            have n2 : c1.ρ i = c.ρ (nameOf p i) := n2
            rw [nm i q h1] at n2
            refine .inl ⟨⟨xs0, m2⟩, k4.trans n2, fun b cells et hb hh => n3 b cells et ?_ hh⟩
            show c.ρ (nameOf p i) = _
            rw [nm i q h1]; exact hb
          | box us =>
            simp only [mapO] at htok ⊢
            rcases htok with ⟨⟨us0, n1⟩, n2⟩ | ⟨e, xs0, n1⟩ | n1
            · have n1 : As[i]? = some (.box us0) := n1
              rw [m1] at n1; cases n1
              have n2 : c1.ρ i = c.ρ (nameOf p i) := n2
              rw [nm i q h1] at n2
              exact .inl ⟨⟨_, m2⟩, k4.trans n2⟩
            · have n1 : As[i]? = some (.row e xs0) := n1
              rw [m1] at n1; cases n1
              exact .inr (.inl ⟨e, xs0, m2⟩)
            · have n1 : As[i]? = some .room := n1
              rw [m1] at n1; cases n1
              exact .inr (.inr m2)
          | mapo mi us =>
            simp only [mapO] at htok ⊢
            rcases htok with ⟨⟨mj, us0, n1, nj⟩, n2⟩ | n1
            · have n1 : As[i]? = some (.mapo mj us0) := n1
              rw [m1] at n1; cases n1
              have n2 : c1.ρ i = c.ρ (nameOf p i) := n2
              rw [nm i q h1] at n2
              exact .inl ⟨⟨mj, _, m2, nj⟩, k4.trans n2⟩
            · have n1 : As[i]? = some .room := n1
              rw [m1] at n1; cases n1
              exact .inr m2
        · omega
  have H2 : HR c2 := by
    refine ⟨fun t b ht hb => ?_, fun t u b ht hu h1 h2 => ?_, fun t o ho => ?_, fun b hb => H1.old b ((hXs b).2 (.inl hb)), fun g v' hgv => ?_⟩
    · rcases live2 t ht with ⟨k1, k2, k3, k4⟩ | ⟨i, k1, k2, k3⟩
      · rw [k4] at hb; exact H.far t b k3 hb
      · rw [k3] at hb; exact fun hx => H1.far i b k1 hb ((hXs b).2 (.inl hx))
    · rcases live2 t ht with ⟨k1, k2, k3, k4⟩ | ⟨i, k1, k2, k3⟩ <;> rcases live2 u hu with ⟨j1, j2, j3, j4⟩ | ⟨j, j1, j2, j3⟩
      · rw [k4] at h1; rw [j4] at h2; exact H.inj t u b k3 j3 h1 h2
      · rw [k4] at h1; rw [j3] at h2
        exact absurd ((hXs b).2 (.inr ⟨t, k3, k2, h1⟩)) (H1.far j b j1 h2)
      · rw [k3] at h1; rw [j4] at h2
        exact absurd ((hXs b).2 (.inr ⟨u, j3, j2, h2⟩)) (H1.far i b k1 h1)
      · rw [k3] at h1; rw [j3] at h2
        rw [← k2, ← j2, H1.inj i j b k1 j1 h1 h2]
    · rcases back t (get_lt ho) with ⟨k1, k2, k3, k4⟩ | ⟨i, o', k1, k2, k3, k4⟩
      · rw [k3] at ho
        rw [k4]
        refine objOk_ext E2 (H.obj t o ho) (fun hl b hb => ?_)
        exact E1.far b (.inr ⟨t, ⟨o, ho, hl⟩, k2, hb⟩)
      · rw [k3] at ho; cases ho
        rw [k4]
        exact fw_obj F (H1.obj i o' k1)
    · exact (H.glo g v' hgv).mono E2.le.I
  exact ⟨v, c2, r.map (frN p c.A.length), he, hw, E2, H2, fw_rel F r v hr, hK⟩
/-! ### with nothing of one's own -/
mutual
theorem map_okB (f : Nat → Nat) : ∀ a : AV, a.okB 0 = true → a.map f = a
  | .fz _ _, _ => rfl
  | .fptr _ _, _ => rfl
  | .ref _ _ _, h => by simp [AV.okB, Nat.blt] at h
  | .nilSl, _ => rfl
  | .ptr _ _, h => by simp [AV.okB, Nat.blt] at h
  | .elt _ _ _, h => by simp [AV.okB, Nat.blt] at h
  | .glob _, _ => rfl
  | .agg l, h => by unfold AV.map; rw [mapL_okB f l h]
  | .tup l, h => by unfold AV.map; rw [mapL_okB f l h]
  | .fn _ l, h => by unfold AV.map; rw [mapL_okB f l h]
  | .ifc _ a, h => by unfold AV.map; rw [map_okB f a h]
  | .opt _ a, h => by unfold AV.map; rw [map_okB f a h]
  | .unk, _ => rfl
theorem mapL_okB (f : Nat → Nat) : ∀ l : List AV, okLB 0 l = true → mapL f l = l
  | [], _ => rfl
  | a :: l, h => by
    unfold okLB at h
    simp only [Bool.and_eq_true] at h
    unfold mapL
    rw [map_okB f a h.1, mapL_okB f l h.2]
end
theorem acall_frame0 {P : Program} {G : List (Nat × Value)} {f : FuncId} {args : List AV} {A : List AO} {K : AV → List AO → Prop} (hok : okLB 0 args = true)
    (h : ACall P G f args [] fun r As' => K (r.map (frN [] A.length)) (A ++ mapOs (frN [] A.length) As')) : ACall P G f args A K :=
  acall_frame [] [] args rfl trivial ⟨hok, rfl⟩ (mapL_okB _ _ hok).symm (h.mono fun r As' hk => by unfold updA; exact hk)
end Go.Ab
/-
  Arguments as data: for good, or for one call.
-/
namespace Go.Ab
open Go
/-! ### what leads nowhere -/
def Ty.flat : Ty → Bool
  | .list _ => false
  | .one a => a.flat
  | .pair a b => a.flat && b.flat
  | .arr _ e => e.flat
  | _ => true
mutual
def AV.flat : AV → Bool
  | .fz t _ => t.flat
  | .fptr _ _ => false
  | .agg l | .tup l | .fn _ l => flatL l
  | .ifc _ a | .opt _ a => a.flat
  | _ => true
def flatL : List AV → Bool
  | [] => true
  | a :: l => a.flat && flatL l
end
def AO.flat : AO → Bool
  | .row e _ => e.flat
  | .box vs => flatL vs
  | .dead => true
  | .room => true
  | .mapo _ vs => flatL vs
theorem FzC.flat {I I' : Nat → Prop} {w w' : World} : ∀ {t : Ty} {x : t.den} {vs : List Value}, FzC I w t x vs → t.flat = true → FzC I' w' t x vs
  | .int _, _, _, h, _ => h
  | .bool, _, _, h, _ => h
  | .str, _, _, h, _ => h
  | .flt _, _, _, h, _ => h
  | .raw, _, _, h, _ => h
  | .list _, _, _, _, hf => by cases hf
  | .one a, x, vs, h, hf => FzC.flat (t := a) h hf
  | .pair a b, x, vs, h, hf => by
    unfold Ty.flat at hf
    simp only [Bool.and_eq_true] at hf
    obtain ⟨l, r, e, h1, h2⟩ := h
    exact ⟨l, r, e, FzC.flat h1 hf.1, FzC.flat h2 hf.2⟩
  | .arr n e, x, vs, h, hf => by
    obtain ⟨hl, css, hn, he, hall⟩ := h
    exact ⟨hl, css, hn, he, fun i hi => FzC.flat (hall i hi) hf⟩
structure Fl (f : Nat → Nat) (c c2 : Cx) : Prop where
  w : c2.w = c.w
  tok : ∀ (t : Nat) o, c.A[t]? = some o → c2.A[f t]? = some (mapO f o) ∧ (o.live = true → c2.ρ (f t) = c.ρ t)
section
variable {f : Nat → Nat} {c c2 : Cx}
mutual
theorem fl_rel (F : Fl f c c2) : ∀ (a : AV) (v : Value), a.flat = true → Rel c a v → Rel c2 (a.map f) v
  | .fz t x, v, hf, h => by
    unfold AV.map; unfold AV.flat at hf; unfold Rel at *
    obtain ⟨cs, h1, h2⟩ := h
    exact ⟨cs, h1.flat hf, h2⟩
  | .fptr t x, v, hf, h => by cases hf
  | .ref tok off len, v, _, h => by
    unfold AV.map; unfold Rel at *
    cases ho : c.A[tok]? with
    | none => rw [ho] at h; exact h.elim
    | some o =>
      obtain ⟨k1, k2⟩ := F.tok tok o ho
      rw [ho] at h
      rw [k1]
      cases o with
      | dead => trivial
      | room => exact h
      | box vs => trivial
      | mapo i vs => trivial
      | row e xs =>
        have k2 := k2 rfl
        simp only [mapO] at h ⊢
        rw [k2, F.w]; exact h
  | .nilSl, v, _, h => by unfold AV.map; unfold Rel at *; exact h
  | .ptr tok off, v, _, h => by
    unfold AV.map; unfold Rel at *
    cases ho : c.A[tok]? with
    | none => rw [ho] at h; exact h.elim
    | some o =>
      obtain ⟨k1, k2⟩ := F.tok tok o ho
      rw [ho] at h
      rw [k1]
      cases o with
      | dead => trivial
      | room => exact h
      | row e xs => trivial
      | box vs =>
        have k2 := k2 rfl
        simp only [mapO] at h ⊢
        rw [k2]; exact h
      | mapo i vs =>
        have k2 := k2 rfl
        simp only [mapO] at h ⊢
        rw [k2]; exact h
  | .elt tok i off, v, _, h => by
    unfold AV.map; unfold Rel at *
    cases ho : c.A[tok]? with
    | none => rw [ho] at h; exact h.elim
    | some o =>
      obtain ⟨k1, k2⟩ := F.tok tok o ho
      rw [ho] at h
      rw [k1]
      cases o with
      | dead => trivial
      | room => exact h
      | box vs => trivial
      | mapo i vs => trivial
      | row e xs =>
        have k2 := k2 rfl
        simp only [mapO] at h ⊢
        rw [k2]; exact h
  | .glob g, v, _, h => by unfold AV.map; unfold Rel at *; exact h
  | .agg l, v, hf, h => by
    unfold AV.map; unfold AV.flat at hf; unfold Rel at *
    obtain ⟨vs, h1, h2⟩ := h
    exact ⟨vs, h1, fl_relL F l vs hf h2⟩
  | .tup l, v, hf, h => by
    unfold AV.map; unfold AV.flat at hf; unfold Rel at *
    obtain ⟨vs, h1, h2⟩ := h
    exact ⟨vs, h1, fl_relL F l vs hf h2⟩
  | .fn g l, v, hf, h => by
    unfold AV.map; unfold AV.flat at hf; unfold Rel at *
    obtain ⟨vs, h1, h2⟩ := h
    exact ⟨vs, h1, fl_relL F l vs hf h2⟩
  | .ifc t a, v, hf, h => by
    unfold AV.map; unfold AV.flat at hf; unfold Rel at *
    obtain ⟨u, h1, h2⟩ := h
    exact ⟨u, h1, fl_rel F a u hf h2⟩
  | .opt g a, v, hf, h => by
    unfold AV.map; unfold AV.flat at hf; unfold Rel at *
    exact ⟨fun hg => fl_rel F a v hf (h.1 hg), h.2⟩
  | .unk, v, _, _ => by unfold AV.map; unfold Rel; trivial
theorem fl_relL (F : Fl f c c2) : ∀ (l : List AV) (vs : List Value), flatL l = true → RelL c l vs → RelL c2 (mapL f l) vs
  | [], vs, _, h => by unfold mapL; exact h
  | a :: l, vs, hf, h => by
    unfold flatL at hf
    simp only [Bool.and_eq_true] at hf
    unfold mapL
    unfold RelL at *
    obtain ⟨v, r, e, h1, h2⟩ := h
    exact ⟨v, r, e, fl_rel F a v hf.1 h1, fl_relL F l r hf.2 h2⟩
end
theorem fl_obj (F : Fl f c c2) {r : Option Nat} {o : AO} (hf : o.flat = true) (h : ObjOk c r o) : ObjOk c2 r (mapO f o) := by
  cases o with
  | dead => trivial
  | room => trivial
  | row e xs =>
    rcases h with h | ⟨b, cs, et, h1, h2, h3⟩
    · exact .inl h
    · refine .inr ⟨b, cs, et, h1, by rw [F.w]; exact h2, fun i hi => ?_⟩
      obtain ⟨ds, k1, k2⟩ := h3 i hi
      exact ⟨ds, k1.flat hf, k2⟩
  | box vs =>
    obtain ⟨b, cs, et, h1, h2, h3⟩ := h
    exact ⟨b, cs, et, h1, by rw [F.w]; exact h2, fl_relL F vs cs hf h3⟩
  | mapo i vs =>
    obtain ⟨b, ob, us, h1, h2, h4, h3⟩ := h
    exact ⟨b, ob, us, h1, by rw [F.w]; exact h2, h4, fl_relL F vs us hf h3⟩
end
/-! ### arguments turned -/
inductive Cv where
  | keep
  | dat (t : Ty)
  | pt (t : Ty)
def aggB : AV → Bool
  | .agg _ => true
  | .fz t _ => t.isAgg
  | _ => false
def conv1 (A : List AO) (cv : Cv) (v : AV) : Option Prop × Option AV × List AO := match cv with
  | .keep => (none, some v, A)
  | .dat t => match bEq (aggB v) t.isAgg with
    | true => match toD A t v with
      | (C, some x, A') => (C, some (.fz t x), A')
      | (C, none, A') => (C, none, A')
    | false => (none, none, A)
  | .pt t => match v with
    | .ptr tok 0 => match A[tok]? with
      | some (.box vs) => match goodC A vs with
        | true => match frz (A.set tok .dead) vs with
          | (C, l, A') => match t.ofC l with
            | some x => (C, some (.fptr t x), A')
            | none => (C, none, A')
        | false => (none, none, A)
      | _ => (none, none, A)
    | _ => (none, none, A)
def conv (A : List AO) : List Cv → List AV → Option Prop × Option (List AV) × List AO
  | [], [] => (none, some [], A)
  | cv :: cvs, v :: vs => match conv1 A cv v with
    | (C, some v', A') => match conv A' cvs vs with
      | (C', some vs', A'') => (andC C C', some (v' :: vs'), A'')
      | (C', none, A'') => (C', none, A'')
    | (C, none, A') => (C, none, A')
  | _, _ => (none, none, A)
theorem rel_tok_ok {c : Cx} {tok off : Nat} {vs : List AV} {v : Value} (h0 : c.A[tok]? = some (.box vs)) (h : Rel c (.ptr tok off) v) : ∃ b, c.ρ tok = some b ∧ v = .pointer (some ⟨b, off, none⟩) := by
  unfold Rel at h; rw [h0] at h; exact h
theorem conv1_sound {c : Cx} (H : HR c) {cv : Cv} {a a' : AV} {v : Value} (hr : Rel c a v) (hC : Hold (conv1 c.A cv a).1) (hs : (conv1 c.A cv a).2.1 = some a') :
    ∃ c', Killed c c' ∧ Ext c c' ∧ HR c' ∧ c'.A = (conv1 c.A cv a).2.2 ∧ Rel c' a' v := by
  cases cv with
  | keep => cases hs; exact ⟨c, Killed.refl c, Ext.refl c, H, rfl, hr⟩
  | dat t =>
    unfold conv1 at *
    simp only at hC hs ⊢
    cases hb : bEq (aggB a) t.isAgg with
    | false => rw [hb] at hs; cases hs
    | true =>
    rw [hb] at hC hs
    simp only at hC hs ⊢
    have hb := bEq_of hb
    generalize hd : toD c.A t a = d at *
    obtain ⟨C, ox, A'⟩ := d
    cases ox with
    | none => cases hs
    | some x =>
      simp only at hC hs ⊢
      cases hs
      have hC1 : Hold (toD c.A t a).1 := by rw [hd]; exact hC
      obtain ⟨c', k1, k2, k3, k4, k5⟩ := toD_sound (t := t) (x := x) H hr hC1 (by rw [hd])
      rw [hd] at k4
      refine ⟨c', k1, k2, k3, k4, ?_⟩
      have hv := rel_fz_mk k5
      have hcells : valOf t v.cells.toList = v := by
        have hl := k5.len
        have single : ocell v = true → t.isAgg = false → valOf t v.cells.toList = v := fun ho ha => by
          unfold valOf; rw [if_neg (by simp [ha]), ocell_cells ho]; rfl
        have hg := toD_good hC1
        cases a with
        | agg vs =>
          unfold Rel at hr
          obtain ⟨us, rfl, _⟩ := hr
          unfold valOf; rw [← hb]; simp [aggB, Value.cells]
        | fz u y =>
          unfold Rel at hr
          obtain ⟨cs, h1, rfl⟩ := hr
          rw [valOf_cells h1]
          have hb : u.isAgg = t.isAgg := hb
          unfold valOf; rw [hb]
        | _ =>
          refine single ?_ hb.symm
          unfold goodC acells at hg
          simp only [List.all_cons, List.all_nil, Bool.and_true, Bool.and_eq_true] at hg
          exact one_ocell hg.1 hg.2 hr
      rw [← hcells]; exact hv
  | pt t =>
    unfold conv1 at *
    simp only at hC hs ⊢
    cases a <;> try (cases hs; done)
    rename_i tok off
    cases off with
    | succ o => cases hs
    | zero =>
    simp only at hC hs ⊢
    cases h0 : c.A[tok]? with
    | none => rw [h0] at hs; cases hs
    | some o =>
      rw [h0] at hC hs
      cases o <;> try (cases hs; done)
      rename_i vs
      simp only at hC hs ⊢
      cases hg : goodC c.A vs with
      | false => rw [hg] at hs; cases hs
      | true =>
        rw [hg] at hC hs
        simp only at hC hs ⊢
        obtain ⟨b, hb, rfl⟩ := rel_tok_ok h0 hr
        have hlive : c.live tok := ⟨_, h0, rfl⟩
        have ho := H.obj tok _ h0
        rw [hb] at ho
        obtain ⟨b', cs, et, hb', hh, hrel⟩ := ho
        cases hb'
        have Hk := hr_kill H tok
        have Ek := ext_kill c tok
        have hkA : (c.kill tok).A = c.A.set tok .dead := rfl
        generalize hd : frz (c.A.set tok .dead) vs = d at *
        obtain ⟨C, l, A'⟩ := d
        simp only at hC hs ⊢
        cases hx : t.ofC l with
        | none => rw [hx] at hs; cases hs
        | some x =>
          rw [hx] at hC hs
          simp only at hC hs ⊢
          cases hs
          obtain ⟨c', k1, k2, k3, k4, k5⟩ := frz_sound vs (c.kill tok) cs Hk (hrel.ext Ek) (by rw [hkA, hd]; exact hC)
          rw [hkA, hd] at k4 k5
          refine ⟨c', (killed_kill c tok (get_lt h0)).trans k1, Ek.trans k2, k3, k4, ?_⟩
          have hIk : (c.kill tok).I b := ⟨H.far tok b hlive hb, fun t ht he => (kill_live ht).1 (H.inj t tok b (kill_live ht).2 hlive he hb)⟩
          obtain ⟨j1, j2⟩ := k2.le.I b hIk (some_lt hh)
          have hf := ofC_sound t _ _ _ hx k5
          unfold Rel
          refine ⟨b, 0, cs, rfl, j1, heap_lt (some_lt hh) j2, hf, fun j hj => ?_⟩
          rw [cell_heap (w := c.w) j2]
          unfold World.cell?
          simp only [hh]
          simp [List.getElem?_eq_getElem hj]
theorem conv_sound : ∀ (cvs : List Cv) (l : List AV) (c : Cx) (l' : List AV) (vs : List Value), HR c → RelL c l vs → Hold (conv c.A cvs l).1 → (conv c.A cvs l).2.1 = some l' →
    ∃ c', Killed c c' ∧ Ext c c' ∧ HR c' ∧ c'.A = (conv c.A cvs l).2.2 ∧ RelL c' l' vs
  | [], [], c, l', vs, H, hr, _, hs => by cases hs; exact ⟨c, Killed.refl c, Ext.refl c, H, rfl, hr⟩
  | [], _ :: _, _, _, _, _, _, _, hs => by cases hs
  | _ :: _, [], _, _, _, _, _, _, hs => by cases hs
  | cv :: cvs, a :: l, c, l', vs, H, hr, hC, hs => by
    unfold RelL at hr
    obtain ⟨v, r, rfl, h1, h2⟩ := hr
    unfold conv at *
    generalize hd : conv1 c.A cv a = d at *
    obtain ⟨C, oa, A1⟩ := d
    cases oa with
    | none => cases hs
    | some a' =>
      simp only at hC hs ⊢
      generalize hd2 : conv A1 cvs l = d2 at *
      obtain ⟨C2, ol, A2⟩ := d2
      cases ol with
      | none => cases hs
      | some l2 =>
        simp only at hC hs ⊢
        cases hs
        obtain ⟨hC1, hC2⟩ := andC_of hC
        obtain ⟨c1, k1, k2, k3, k4, k5⟩ := conv1_sound H h1 (by rw [hd]; exact hC1) (by rw [hd])
        rw [hd] at k4
        have k4 : c1.A = A1 := k4
        obtain ⟨c2, j1, j2, j3, j4, j5⟩ := conv_sound cvs l c1 l2 r k3 (h2.ext k2) (by rw [k4, hd2]; exact hC2) (by rw [k4, hd2])
        rw [k4, hd2] at j4
        refine ⟨c2, k1.trans j1, k2.trans j2, j3, j4, ?_⟩
        unfold RelL
        exact ⟨v, r, rfl, k5.ext j2, j5⟩
/-- arguments turned for good -/
theorem acall_conv {P : Program} {G : List (Nat × Value)} {f : FuncId} {args : List AV} {A : List AO} {K : AV → List AO → Prop} (cvs : List Cv) (args' : List AV) (A' : List AO) (C : Option Prop) (he : conv A cvs args = (C, some args', A')) (hC : Hold C) (h : ACall P G f args' A' K) : ACall P G f args A K := by
  refine ⟨h.body, fun c H hA hG vs hv => ?_⟩
  subst hA
  obtain ⟨c', k1, k2, k3, k4, k5⟩ := conv_sound cvs args c args' vs H hv (by rw [he]; exact hC) (by rw [he])
  rw [he] at k4
  have := h.run c' k3 k4 (k2.G.trans hG) vs k5
  rw [k1.w] at this
  exact this.mono fun e w' ⟨v, c2, r, h1, h2, h3, h4, h5, h6⟩ => ⟨v, c2, r, h1, h2, k2.trans h3, h4, h5, h6⟩
/-! ### arguments turned for one call -/
def flatA : List AO → Bool
  | [] => true
  | o :: A => o.flat && flatA A
theorem flatA_at : ∀ {A : List AO}, flatA A = true → ∀ (i : Nat) o, A[i]? = some o → o.flat = true
  | [], _, i, o, h => by simp at h
  | p :: A, hf, i, o, h => by
    unfold flatA at hf
    simp only [Bool.and_eq_true] at hf
    cases i with
    | zero => simp at h; subst h; exact hf.1
    | succ i => exact flatA_at hf.2 i o (by simpa using h)
theorem acall_lend {P : Program} {G : List (Nat × Value)} {f : FuncId} {args : List AV} {A : List AO} {K : AV → List AO → Prop} (cvs : List Cv) (args' : List AV) (A' : List AO) (C : Option Prop) (he : conv A cvs args = (C, some args', A')) (hC : Hold C) (hok : okLB 0 args' = true)
    (h : ACall P G f args' [] fun r As' => (r.flat && flatA As') = true ∧ K (r.map (frN [] A.length)) (A ++ mapOs (frN [] A.length) As')) : ACall P G f args A K := by
  refine ⟨h.body, fun c H hcA hG vs hv => ?_⟩
  subst hcA
  obtain ⟨c1, k1, k2, k3, k4, k5⟩ := conv_sound cvs args c args' vs H hv (by rw [he]; exact hC) (by rw [he])
  -- the callee's state: it owns nothing
  let cs : Cx := { ρ := fun _ => none, A := [], X := fun b => c1.X b ∨ ∃ t, c1.live t ∧ c1.ρ t = some b, w := c1.w, G := c1.G }
  have csI : ∀ b, c1.I b ↔ cs.I b := fun b => by
    constructor
    · intro hb
      refine ⟨?_, fun i hi => by obtain ⟨o, h1, _⟩ := hi; simp [cs] at h1⟩
      rintro (hx | ⟨t, h1, h2⟩)
      · exact hb.1 hx
      · exact hb.2 t h1 h2
    · intro hb
      exact ⟨fun hx => hb.1 (.inl hx), fun t ht he => hb.1 (.inr ⟨t, ht, he⟩)⟩
  have B : Bw (nameOf []) c1 cs := ⟨fun b hb => (csI b).1 hb, rfl, fun t o h1 _ => by simp [cs] at h1, fun t h1 => by simp [cs] at h1⟩
  have Hs : HR cs := by
    refine ⟨fun i b hi _ => ?_, fun i j b hi => ?_, fun i o hi => ?_, fun b hb => ?_, fun g v hgv => ?_⟩
    · obtain ⟨o, h1, _⟩ := hi; simp [cs] at h1
    · obtain ⟨o, h1, _⟩ := hi; simp [cs] at h1
    · simp [cs] at hi
    · rcases hb with hx | ⟨t, h1, h2⟩
      · exact k3.old b hx
      · exact k3.lt h1 h2
    · exact (k3.glo g v hgv).mono fun b hb _ => ⟨(csI b).1 hb, rfl⟩
  have hvs : RelL cs args' vs := bw_relL B args' vs hok (by rw [mapL_okB _ _ hok]; exact k5)
  have hrun := h.run cs Hs rfl (k2.G.trans hG) vs hvs
  rw [show cs.w = c.w from k1.w] at hrun
  refine hrun.mono fun e w' ⟨v, c2, r, h1, h2, E2, H2, hr, hfl, hK⟩ => ?_
  simp only [Bool.and_eq_true] at hfl
  have hX2 : ∀ b, c2.X b ↔ (c1.X b ∨ ∃ t, c1.live t ∧ c1.ρ t = some b) := fun b => by rw [E2.X]
  -- every object's block is as it was
  have same : ∀ t b, c.live t → c.ρ t = some b → c2.w.heap[b]? = c.w.heap[b]? ∧ ∀ i, c2.live i → c2.ρ i ≠ some b := fun t b ht hb => by
    have hbl := H.lt ht hb
    obtain ⟨o, ho, hol⟩ := ht
    have hw : cs.w.heap[b]? = c.w.heap[b]? := by rw [show cs.w = c.w from k1.w]
    rcases k1.A t with hA | hA
    · have hl1 : c1.live t := ⟨o, by rw [hA]; exact ho, hol⟩
      have hx : cs.X b := .inr ⟨t, hl1, by rw [k1.ρ]; exact hb⟩
      exact ⟨(E2.far b hx).trans hw, fun i hi he => H2.far i b hi he (by rw [E2.X]; exact hx)⟩
    · have hI1 : c1.I b := by
        refine ⟨by rw [k2.X]; exact H.far t b ⟨o, ho, hol⟩ hb, fun u hu he => ?_⟩
        rw [k1.ρ] at he
        have hu' : c.live u := by
          obtain ⟨q, q1, q2⟩ := hu
          rcases k1.A u with h | h
          · exact ⟨q, by rw [← h]; exact q1, q2⟩
          · rw [h] at q1; cases q1; cases q2
        have := H.inj u t b hu' ⟨o, ho, hol⟩ he hb
        subst this
        obtain ⟨q, q1, q2⟩ := hu
        rw [hA] at q1; cases q1; cases q2
      obtain ⟨j1, j2⟩ := E2.le.I b ((csI b).1 hI1) (by rw [show cs.w = c.w from k1.w]; exact hbl)
      exact ⟨j2.trans hw, fun i hi => j1.2 i hi⟩
  let c3 : Cx := { ρ := fun t => if t < c.A.length then c.ρ t else c2.ρ (t - c.A.length), A := c.A ++ mapOs (frN [] c.A.length) c2.A, X := c.X, w := c2.w, G := c.G }
  have fN : ∀ i, frN [] c.A.length i = c.A.length + i := fun i => by unfold frN; simp
  have oldA : ∀ t, t < c.A.length → c3.A[t]? = c.A[t]? := fun t ht => by show (c.A ++ _)[t]? = _; rw [List.getElem?_append_left ht]
  have oldρ : ∀ t, t < c.A.length → c3.ρ t = c.ρ t := fun t ht => by show (if _ then _ else _) = _; rw [if_pos ht]
  have newA : ∀ i, c3.A[c.A.length + i]? = (c2.A[i]?).map (mapO (frN [] c.A.length)) := fun i => by
    show (c.A ++ _)[_]? = _
    rw [List.getElem?_append_right (by omega), mapOs_at]
    congr 2; omega
  have newρ : ∀ i, c3.ρ (c.A.length + i) = c2.ρ i := fun i => by
    show (if _ then _ else _) = _
    rw [if_neg (by omega), show c.A.length + i - c.A.length = i by omega]
  have split : ∀ t, c3.live t → (t < c.A.length ∧ c.live t) ∨ ∃ i, t = c.A.length + i ∧ c2.live i := fun t ⟨o, h1, h2⟩ => by
    by_cases ht : t < c.A.length
    · rw [oldA t ht] at h1; exact .inl ⟨ht, o, h1, h2⟩
    · rw [show t = c.A.length + (t - c.A.length) by omega, newA] at h1
      cases hq : c2.A[t - c.A.length]? with
      | none => rw [hq] at h1; cases h1
      | some q =>
        rw [hq] at h1; cases h1
        exact .inr ⟨t - c.A.length, by omega, q, hq, by cases q <;> first | rfl | cases h2⟩
  have I3 : ∀ b, c.I b → b < c.w.heap.size → c3.I b ∧ c2.w.heap[b]? = c.w.heap[b]? := fun b hb hlt => by
    have hb1 := (k2.le.I b hb hlt).1
    obtain ⟨j1, j2⟩ := E2.le.I b ((csI b).1 hb1) (by rw [show cs.w = c.w from k1.w]; exact hlt)
    refine ⟨⟨hb.1, fun t ht he => ?_⟩, j2.trans (by rw [show cs.w = c.w from k1.w])⟩
    rcases split t ht with ⟨l1, l2⟩ | ⟨i, rfl, l2⟩
    · rw [oldρ t l1] at he; exact hb.2 t l2 he
    · rw [newρ] at he; exact j1.2 i l2 he
  have Fl3 : Fl (frN [] c.A.length) c2 c3 := ⟨rfl, fun t o ht => by rw [fN, newA, newρ, ht]; exact ⟨rfl, fun _ => rfl⟩⟩
  have E3 : Ext c c3 := by
    refine ⟨⟨I3, fun t ht => ?_, by show _ ≤ (c.A ++ _).length; simp⟩, rfl, rfl, fun b hb => ?_, ?_⟩
    · have := TokLe.refl ht
      unfold TokLe at *
      rw [oldA t ht, oldρ t ht]
      cases hA : c.A[t]? with
      | none => rw [hA] at this; exact this
      | some o =>
        rw [hA] at this
        cases o with
        | dead => trivial
        | room => exact this
        | box us => exact this
        | mapo i us => exact this
        | row el xs =>
          simp only at this ⊢
          rcases this with this | this
          rotate_left
          · exact .inr this
          refine .inl ⟨this.1, by simp, fun b cells et hb hh => ⟨cells, ?_, rfl⟩⟩
          rw [← hh]; exact (same t b ⟨_, hA, rfl⟩ hb).1
    · have := E2.far b (.inl (by rw [k2.X]; exact hb))
      exact this.trans (by rw [show cs.w = c.w from k1.w])
    · have := E2.st
      rw [show cs.w = c.w from k1.w] at this; exact this
  have H3 : HR c3 := by
    refine ⟨fun t b ht hb => ?_, fun t u b ht hu g1 g2 => ?_, fun t o ho => ?_, fun b hb => ?_, fun g v' hgv => ?_⟩
    · rcases split t ht with ⟨l1, l2⟩ | ⟨i, rfl, l2⟩
      · rw [oldρ t l1] at hb; exact H.far t b l2 hb
      · rw [newρ] at hb
        exact fun hx => H2.far i b l2 hb ((hX2 b).2 (.inl (by rw [k2.X]; exact hx)))
    · rcases split t ht with ⟨l1, l2⟩ | ⟨i, rfl, l2⟩ <;> rcases split u hu with ⟨m1, m2⟩ | ⟨j, rfl, m2⟩
      · rw [oldρ t l1] at g1; rw [oldρ u m1] at g2; exact H.inj t u b l2 m2 g1 g2
      · rw [oldρ t l1] at g1; rw [newρ] at g2; exact absurd g2 ((same t b l2 g1).2 j m2)
      · rw [oldρ u m1] at g2; rw [newρ] at g1; exact absurd g1 ((same u b m2 g2).2 i l2)
      · rw [newρ] at g1 g2; rw [H2.inj i j b l2 m2 g1 g2]
    · by_cases ht : t < c.A.length
      · rw [oldA t ht] at ho
        rw [oldρ t ht]
        exact objOk_ext E3 (H.obj t o ho) (fun hl b hb => (same t b ⟨o, ho, hl⟩ hb).1)
      · rw [show t = c.A.length + (t - c.A.length) by omega, newA] at ho
        rw [show t = c.A.length + (t - c.A.length) by omega, newρ]
        cases hq : c2.A[t - c.A.length]? with
        | none => rw [hq] at ho; cases ho
        | some q =>
          rw [hq] at ho; cases ho
          exact fl_obj Fl3 (flatA_at hfl.2 _ _ hq) (H2.obj _ _ hq)
    · exact H2.old b ((hX2 b).2 (.inl (by rw [k2.X]; exact hb)))
    · exact (H.glo g v' hgv).mono I3
  exact ⟨v, c3, r.map (frN [] c.A.length), h1, h2, E3, H3, fl_rel Fl3 r v hfl.1 hr, hK⟩
end Go.Ab
/-
  Own objects turned to data for good: at a function's end, within it.
-/
namespace Go.Ab
open Go
@[simp] theorem wantB_true (b : Bool) : wantB true b = b := rfl
@[simp] theorem wantB_false (b : Bool) : wantB false b = !b := rfl
theorem REnt.conv {n0 : Nat} {l l' : List AV} {A A' : List AO} (cvs : List Cv) (C : Option Prop) (he : conv A cvs l = (C, some l', A')) (hC : Hold C) : REnt n0 (.tup l) A (.tup l') A' := fun c H hA hn v hv => by
  subst hA
  unfold Rel at hv
  obtain ⟨vs, h1, h2⟩ := hv
  obtain ⟨c', k1, k2, k3, k4, k5⟩ := conv_sound cvs l c l' _ H h2 (by rw [he]; exact hC) (by rw [he])
  rw [he] at k4
  refine ⟨c', k1.w, k2.toN' hn, k3, k4, ?_⟩
  unfold Rel
  exact ⟨vs, h1, k5⟩
theorem REnt.conv1 {n0 : Nat} {a a' : AV} {A A' : List AO} (cv : Cv) (C : Option Prop) (he : Ab.conv1 A cv a = (C, some a', A')) (hC : Hold C) : REnt n0 a A a' A' := fun c H hA hn v hv => by
  subst hA
  obtain ⟨c', k1, k2, k3, k4, k5⟩ := conv1_sound (cv := cv) H hv (by rw [he]; exact hC) (by rw [he])
  rw [he] at k4
  exact ⟨c', k1.w, k2.toN' hn, k3, k4, k5⟩
theorem Ent.conv {n0 : Nat} {T : List (Nat × AV)} {A : List AO} (d : Nat) (cv : Cv) (C : Option Prop) {a' : AV} {A' : List AO} (he : Ab.conv1 A cv (lk T d) = (C, some a', A')) (hC : Hold C) : Ent n0 ⟨T, A⟩ ⟨(d, a') :: T, A'⟩ := fun c H hA hn tmps ht => by
  have hA : c.A = A := hA
  subst hA
  obtain ⟨c', k1, k2, k3, k4, k5⟩ := conv1_sound (cv := cv) H (ht d) (by rw [he]; exact hC) (by rw [he])
  rw [he] at k4
  refine ⟨c', k1.w, k2.toN' hn, k3, k4, fun n => ?_⟩
  show Rel _ (lk ((d, _) :: T) n) _
  unfold lk
  by_cases hd : d = n
  · subst hd; rw [if_pos rfl]; exact k5
  · rw [if_neg hd]; exact (ht n).ext k2
end Go.Ab
/-
  A box's nil slice as a slice of one's own.
-/
namespace Go.Ab
open Go
def Cx.rebox (c : Cx) (tok : Nat) (vs : List AV) : Cx := { c with A := c.A.set tok (.box vs) }
theorem rebox_sound {c : Cx} (H : HR c) {tok : Nat} {vs vs' : List AV} (h0 : c.A[tok]? = some (.box vs)) (hr : ∀ b cs et, c.ρ tok = some b → c.w.heap[b]? = some (.cells (List.toArray cs) et (0, 0)) → RelL c vs cs → RelL c vs' cs) : Ext c (c.rebox tok vs') ∧ HR (c.rebox tok vs') := by
  have hlt := get_lt h0
  have new : (c.rebox tok vs').A[tok]? = some (.box vs') := by show (c.A.set tok _)[tok]? = _; rw [List.getElem?_set_self hlt]
  have old : ∀ t, t ≠ tok → (c.rebox tok vs').A[t]? = c.A[t]? := fun t h => by show (c.A.set tok _)[t]? = _; rw [List.getElem?_set_ne (by omega)]
  have hl : ∀ t, (c.rebox tok vs').live t → c.live t := by
    intro t ⟨o, h1, h2⟩
    by_cases h : t = tok
    · subst h; exact ⟨_, h0, rfl⟩
    · rw [old t h] at h1; exact ⟨o, h1, h2⟩
  have hI : ∀ b, c.I b → (c.rebox tok vs').I b := fun b h => ⟨h.1, fun t ht => h.2 t (hl t ht)⟩
  have E : Ext c (c.rebox tok vs') := by
    refine ⟨⟨fun b h _ => ⟨hI b h, rfl⟩, fun t ht => ?_, by show _ ≤ (c.A.set tok _).length; simp⟩, rfl, rfl, fun b _ => rfl, ⟨rfl, rfl, rfl⟩⟩
    by_cases h : t = tok
    · subst h; unfold TokLe; rw [new]; exact .inl ⟨⟨_, h0⟩, rfl⟩
    · have := TokLe.refl ht
      unfold TokLe at *
      rw [old t h]; exact this
  refine ⟨E, ⟨fun t b ht hb => H.far t b (hl t ht) hb, fun t u b ht hu h1 h2 => H.inj t u b (hl t ht) (hl u hu) h1 h2, fun t o h => ?_, H.old, fun g v h => ?_⟩⟩
  · by_cases ht : t = tok
    · subst ht
      rw [new] at h; cases h
      obtain ⟨b, cs, et, h1, h2, h3⟩ := H.obj t _ h0
      exact ⟨b, cs, et, h1, h2, (hr b cs et h1 h2 h3).ext E⟩
    · rw [old t ht] at h
      exact objOk_ext E (H.obj t o h) (fun _ _ _ => rfl)
  · exact (H.glo g v h).mono fun b hb _ => ⟨hI b hb, rfl⟩
theorem Ent.nilBox {n0 : Nat} {T : List (Nat × AV)} {A : List AO} {vs : List AV} (tok i : Nat) (e : Ty) (h0 : A[tok]? = some (.box vs)) (hi : vs[i]? = some .nilSl) :
    Ent n0 ⟨T, A⟩ ⟨T, List.set (A ++ [AO.row e []]) tok (.box (vs.set i (.ref A.length 0 0)))⟩ := fun c H hA hn tmps ht => by
  have hA : c.A = A := hA
  subst hA
  obtain ⟨k1, k2, _⟩ := nilRow_sound (p := none) H e
  have h1 : (c.nilRow e).A[tok]? = some (.box vs) := by show (c.A ++ [AO.row e []])[tok]? = _; rw [List.getElem?_append_left (get_lt h0)]; exact h0
  obtain ⟨j1, j2⟩ := rebox_sound (vs' := vs.set i (.ref c.A.length 0 0)) k2 h1 (fun _ cs _ _ _ hcs => by
    refine RelL.of_get _ _ (by rw [hcs.length, List.length_set]) fun j a v ha hv => ?_
    by_cases hij : j = i
    · subst hij
      rw [List.getElem?_set_self (get_lt hi)] at ha
      cases ha
      obtain ⟨u, hu, hr⟩ := RelL.get _ _ j _ hcs hi
      rw [hv] at hu; cases hu
      unfold Rel at hr
      obtain ⟨p, hr⟩ := hr
      rw [hr]; exact (nilRow_sound H e).2.2
    · rw [List.getElem?_set_ne (by omega)] at ha
      obtain ⟨u, hu, hr⟩ := RelL.get _ _ j _ hcs ha
      rw [hv] at hu; cases hu
      exact hr)
  exact ⟨(c.nilRow e).rebox tok (vs.set i (.ref c.A.length 0 0)), rfl, (k1.trans j1).toN' hn, j2, rfl, (fun n => (ht n).ext (k1.trans j1))⟩
/-- own slices within a box, as data for good -/
theorem Ent.datBox {n0 : Nat} {T : List (Nat × AV)} {A : List AO} {vs l : List AV} {A' : List AO} {C : Option Prop} (tok : Nat) (h0 : A[tok]? = some (.box vs)) (he : frz A vs = (C, l, A')) (hC : Hold C) (h1 : A'[tok]? = some (.box vs)) :
    Ent n0 ⟨T, A⟩ ⟨T, List.set A' tok (.box l)⟩ := fun c H hA hn tmps ht => by
  have hA : c.A = A := hA
  subst hA
  obtain ⟨b, cs, et, g1, g2, g3⟩ := H.obj tok _ h0
  obtain ⟨c', k1, k2, k3, k4, k5⟩ := frz_sound vs c cs H g3 (by rw [he]; exact hC)
  rw [he] at k4 k5
  have hA' : c'.A = A' := k4
  obtain ⟨j1, j2⟩ := rebox_sound (tok := tok) (vs' := l) k3 (by rw [hA']; exact h1) (fun b' cs' et' hb hh _ => by
    rw [k1.ρ, g1] at hb; cases hb
    rw [k1.w, g2] at hh
    have : cs = cs' := by
      have := Option.some.inj hh
      injection this with this
      exact congrArg Array.toList this
    rw [← this]; exact k5)
  refine ⟨c'.rebox tok l, k1.w, (k2.trans j1).toN' hn, j2, ?_, (fun n => (ht n).ext (k2.trans j1))⟩
  show c'.A.set tok _ = _
  rw [hA']
end Go.Ab
/-
  Regions that draw their order: the pairs that must be looked at, computed.
-/
namespace Go.Ab
open Go
def pairsAt (M E : List Nat) (i : Nat) : List Nat → List (Nat × Nat)
  | [] => []
  | k :: ks => match okK M i k E 0 && !Nat.beq k (cntE E i) with
    | true => (i, k) :: pairsAt M E i ks
    | false => pairsAt M E i ks
def pairsOf (M E : List Nat) (ks : List Nat) : List Oper → Nat → List (Nat × Nat)
  | [], _ => []
  | o :: os, i => match isEff o.op with
    | true => pairsOf M E ks os (i + 1)
    | false => match memless o.op with
      | true => pairsOf M E ks os (i + 1)
      | false => pairsAt M E i ks ++ pairsOf M E ks os (i + 1)
def autoX (L : List Oper) : List (Nat × Nat) := pairsOf (amask L []) (effsOf L 0) (List.range ((effsOf L 0).length + 1)) L 0
def drawnQ (P : Program) (D : Tab) (G : List (Nat × Value)) (L : List Oper) (A : List AO) (Q : List (Nat × AV) → List AO → Prop) (X : List (Nat × Nat)) (tr : List Rc) (T' : List (Nat × AV)) (A' : List AO) : Prop := match X with
  | [] => Q T' A'
  | X => extras P D G L tr (asL tr A) X ∧ Q T' A'
theorem exEff {p q : AV → List AO → Prop} {v0 : AV} {A0 : List AO} (h1 : p v0 A0) (h2 : q v0 A0) : ∃ v0 A0, p v0 A0 ∧ q v0 A0 := ⟨v0, A0, h1, h2⟩
theorem aRegion_auto {P : Program} {D : Tab} {G : List (Nat × Value)} {N : Nat} {L : List Oper} {T : List (Nat × AV)} {A : List AO} {Q : List (Nat × AV) → List AO → Prop} (h1 : drawB L (autoX L) = true)
    (h2 : aDraw P D G N L L T A [] (drawnQ P D G L A Q (autoX L))) : aRegion P D G N L T A Q := .inl ⟨autoX L, h1, h2⟩
/-- the same, the pairs written out -/
theorem aRegion_lit {P : Program} {D : Tab} {G : List (Nat × Value)} {N : Nat} {L : List Oper} {T : List (Nat × AV)} {A : List AO} {Q : List (Nat × AV) → List AO → Prop} (X : List (Nat × Nat)) (h1 : drawB L X = true)
    (h2 : aDraw P D G N L L T A [] (drawnQ P D G L A Q X)) : aRegion P D G N L T A Q := .inl ⟨X, h1, h2⟩
/-- .. whose effects have no order: what there is when some of them have come (S: the bits of the effects that have) -/
theorem aRegion_open {P : Program} {D : Tab} {G : List (Nat × Value)} {N : Nat} {L : List Oper} {T : List (Nat × AV)} {A : List AO} {Q : List (Nat × AV) → List AO → Prop} (n : Nat) (h1 : drawM2 L (amask L []) (effsOf L 0) = true)
    (h2 : aDraw2 P D G N L L T (A ++ nilRows n) [] fun tr T' A' => ∃ S, lkS 0 S = some (A ++ nilRows n) ∧ lkS (fullM (effsOf L 0)) S = some A' ∧ stAll P D G L (amask L []) (effsOf L 0) S tr S ∧ Q T' A') : aRegion P D G N L T A Q := .inr ⟨h1, n, h2⟩
theorem aRegion_openL {P : Program} {D : Tab} {G : List (Nat × Value)} {N : Nat} {L : List Oper} {T : List (Nat × AV)} {A : List AO} {Q : List (Nat × AV) → List AO → Prop} (M E : List Nat) (n : Nat) (h0 : amask L [] = M ∧ effsOf L 0 = E) (h1 : drawM2 L M E = true)
    (h2 : aDraw2 P D G N L L T (A ++ nilRows n) [] fun tr T' A' => ∃ S, lkS 0 S = some (A ++ nilRows n) ∧ lkS (fullM E) S = some A' ∧ stAll P D G L M E S tr S ∧ Q T' A') : aRegion P D G N L T A Q := by
  obtain ⟨rfl, rfl⟩ := h0
  exact .inr ⟨h1, n, h2⟩
theorem cons_eq {α : Type} {a b : α} {l m : List α} (h : a = b) (h' : l = m) : a :: l = b :: m := by subst h; subst h'; rfl
theorem eff_is {p : AV → List AO → Prop} (v0 : AV) (A0 : List AO) (h : p v0 A0) : ∃ v0 A0, p v0 A0 := ⟨v0, A0, h⟩
theorem view_of {m : Nat} {v v' : AV} {A' A'' : List AO} (p : List Nat) (h1 : viewB p m A' A'' = true) (h2 : RenA p A' A''.length 0 A'') (h3 : v = v'.map (nameOf p)) (h4 : v'.okB A''.length = true) : View m v A' v' A'' := ⟨p, h1, h2, h3, h4⟩
/-- arguments written otherwise -/
theorem acall_arg {P : Program} {G : List (Nat × Value)} {f : FuncId} {args args' : List AV} {A : List AO} {K : AV → List AO → Prop} (h : ACall P G f args' A K) (he : args' = args) : ACall P G f args A K := he ▸ h
end Go.Ab
/-
  What a claim hands over, read as data of a type.
-/
namespace Go.Ab
open Go Go.RowKit
def tflt (D : Tab) (t : TypeId) : Option FloatKind := match tlook D t with
  | some i => match i.d with
    | .flt k => some k
    | _ => none
  | none => none
theorem of_tflt {P : Program} {D : Tab} (hD : TabOk P D) {t : TypeId} {k : FloatKind} (h : tflt D t = some k) : P.underlying t = some (.float k) := by
  unfold tflt at h
  cases hi : tlook D t with
  | none => rw [hi] at h; cases h
  | some x =>
    rw [hi] at h
    obtain ⟨i, d, _, h2, _, h4, _⟩ := tlook_info hD hi
    simp only at h
    cases hd : x.d <;> rw [hd] at h h4 <;> try (cases h; done)
    cases d <;> try (cases h4; done)
    simp only [tiIs, decide_eq_true_eq] at h4
    cases h; rw [h2, h4]
def opB (D : Tab) : Nat → TypeId → Ty → Bool
  | 0, _, _ => false
  | n + 1, t, ty => Nat.beq (tsz D t) ty.size && Nat.blt 0 ty.size && match ty with
    | .int k => decide (tkind D t = some k)
    | .bool => tbool D t
    | .str => tstr D t
    | .flt k => decide (tflt D t = some k)
    | .list e => match telem D t with
      | some e' => opB D n e' e
      | none => false
    | .one a => match tlook D t with
      | some ⟨_, .struct [(o, t0)], _, _, _, _⟩ => Nat.beq o 0 && opB D n t0 a
      | _ => false
    | .pair a b => match tlook D t with
      | some ⟨_, .struct fs, _, _, _, _⟩ => opFs fs (.pair a b) 0 (opB D n)
      | _ => false
    | _ => false
where
  opFs : List (Nat × TypeId) → Ty → Nat → (TypeId → Ty → Bool) → Bool
    | [(o, t)], ty, k, p => Nat.beq o k && p t ty
    | (o, t) :: y :: fs, .pair a b, k, p => Nat.beq o k && p t a && opFs (y :: fs) b (k + a.size) p
    | _, _, _, _ => false
/-- what numbers of a kind, what lengths there are -/
def Ty.inB : (t : Ty) → t.den → Prop
  | .int k, x => k.min ≤ x ∧ x ≤ k.max
  | .str, x => x.size ≤ maxLen
  | .flt k, x => (Lit.float k x).wf = true
  | .one a, x => a.inB x
  | .pair a b, x => a.inB x.1 ∧ b.inB x.2
  | .list e, x => List.length x ≤ maxLen ∧ ∀ i (h : i < List.length x), e.inB x[i]
  | _, _ => True
section
variable {H : Type} {enc : TypeId × Value → H} {P : Program} {w : World} {base : Nat} {spare : Nat → Bool} {held : Bool}
theorem trod_flt {fuel : Nat} {t : TypeId} {k : FloatKind} {cs : List Value} {x : DataW H × List MemPlace} (ht : P.underlying t = some (.float k)) (h : DataW.trod enc P w base spare held fuel t cs = some x) : ∃ b, cs = [.float k b] ∧ (Lit.float k b).wf = true := by
  cases fuel with
  | zero => simp [DataW.trod] at h
  | succ n =>
    unfold DataW.trod at h
    rw [ht] at h
    split at h <;> simp_all
theorem cellsOf_tsz {D : Tab} (hD : TabOk P D) {t : TypeId} {n : Nat} (h : tsz D t = n) (hn : 0 < n) : P.cellsOf t = n := by
  unfold tsz at h
  cases hi : tlook D t with
  | none => rw [hi] at h; simp at h; omega
  | some e =>
    rw [hi] at h
    obtain ⟨i, d, h1, _, h3, _⟩ := tlook_info hD hi
    unfold Program.cellsOf
    rw [h1]
    simp only [Option.map_some, Option.getD_some]
    rw [h3]; exact h
theorem opB_size {D : Tab} (hD : TabOk P D) {n : Nat} {t : TypeId} {ty : Ty} (h : opB D n t ty = true) : P.cellsOf t = ty.size ∧ 0 < ty.size := by
  cases n with
  | zero => cases h
  | succ n =>
    unfold opB at h
    simp only [Bool.and_eq_true] at h
    have h2 := blt_of h.1.2
    exact ⟨cellsOf_tsz hD (beq_eq h.1.1) h2, h2⟩
theorem of_tstruct {D : Tab} (hD : TabOk P D) {t : TypeId} {sz bt en : Nat} {l : List (Nat × Nat)} {z : List Z} {b : Bool} (h : tlook D t = some ⟨sz, .struct l, z, b, bt, en⟩) : ∃ fs : Array Field, P.underlying t = some (.struct fs) ∧ fs.toList.map (fun f => (f.offset, f.type)) = l := by
  obtain ⟨i, d, _, h2, _, h4, _⟩ := tlook_info hD h
  cases d <;> try (cases h4; done)
  rename_i fs
  simp only [tiIs, decide_eq_true_eq] at h4
  exact ⟨fs, h2, h4⟩
/-- the fields from one on -/
theorem open_fs {D : Tab} {n : Nat} {fuel : Nat} {cs : List Value} (ih : ∀ t ty, opB D n t ty = true → ∀ cs x, DataW.trod enc P w base spare held fuel t cs = some x → ∃ y : ty.den, FzC (fun _ => True) w ty y cs ∧ ty.inB y)
    (hsz : ∀ t ty, opB D n t ty = true → P.cellsOf t = ty.size) : ∀ (fs : List (Nat × TypeId)) (ty : Ty) (k : Nat), opB.opFs fs ty k (opB D n) = true → k + ty.size = cs.length →
    (∀ p ∈ fs, ∃ x, DataW.trod enc P w base spare held fuel p.2 ((cs.drop p.1).take (P.cellsOf p.2)) = some x) → ∃ y : ty.den, FzC (fun _ => True) w ty y (cs.drop k) ∧ ty.inB y
  | [], ty, k, h, _, _ => by unfold opB.opFs at h; cases h
  | [(o, t)], ty, k, h, hk, hall => by
    unfold opB.opFs at h
    simp only [Bool.and_eq_true] at h
    have ho := beq_eq h.1
    subst ho
    obtain ⟨x, hx⟩ := hall (o, t) (by simp)
    simp only at hx
    rw [hsz t ty h.2] at hx
    have hl : (cs.drop o).length = ty.size := by simp; omega
    rw [List.take_of_length_le (by omega)] at hx
    exact ih t ty h.2 _ x hx
  | (o, t) :: y :: fs, ty, k, h, hk, hall => by
    cases ty <;> try (unfold opB.opFs at h; cases h; done)
    rename_i a b
    unfold opB.opFs at h
    simp only [Bool.and_eq_true] at h
    obtain ⟨⟨ho, ha⟩, hr⟩ := h
    have ho := beq_eq ho
    subst ho
    obtain ⟨x, hx⟩ := hall (o, t) (by simp)
    simp only at hx
    rw [hsz t a ha] at hx
    obtain ⟨u, hu, hub⟩ := ih t a ha _ x hx
    have hk' : o + (a.size + b.size) = cs.length := hk
    obtain ⟨v, hv, hvb⟩ := open_fs ih hsz (y :: fs) b (o + a.size) hr (by omega) (fun p hp => hall p (List.mem_cons_of_mem _ hp))
    refine ⟨(u, v), ⟨(cs.drop o).take a.size, cs.drop (o + a.size), ?_, hu, hv⟩, hub, hvb⟩
    rw [← List.drop_drop, List.take_append_drop]
theorem open_ty {D : Tab} (hD : TabOk P D) : ∀ (n : Nat) (t : TypeId) (ty : Ty), opB D n t ty = true → ∀ fuel cs x, DataW.trod enc P w base spare held fuel t cs = some x → ∃ y : ty.den, FzC (fun _ => True) w ty y cs ∧ ty.inB y
  | 0, _, _, h => by cases h
  | n + 1, t, ty, h => by
    intro fuel cs x hx
    have hS := opB_size hD h
    unfold opB at h
    simp only [Bool.and_eq_true] at h
    obtain ⟨_, h⟩ := h
    have fields : ∀ (sz bt en : Nat) (l : List (Nat × Nat)) (z : List Z) (b : Bool), tlook D t = some ⟨sz, .struct l, z, b, bt, en⟩ → ∃ m, fuel = m + 1 ∧ cs.length = ty.size ∧ ∀ p ∈ l, ∃ x, DataW.trod enc P w base spare held m p.2 ((cs.drop p.1).take (P.cellsOf p.2)) = some x := by
      intro sz bt en l z b hl
      obtain ⟨fs, h1, h2⟩ := of_tstruct hD hl
      obtain ⟨xs, m, hm, _, hlen, hxs, hf⟩ := DataW.trod_struct h1 hx
      refine ⟨m, hm, hlen.trans hS.1, fun p hp => ?_⟩
      rw [← h2] at hp
      obtain ⟨f, hf1, rfl⟩ := List.mem_map.1 hp
      obtain ⟨i, hi, rfl⟩ := List.getElem_of_mem hf1
      have hi' : i < fs.size := by simpa using hi
      have := hf i fs.toList[i] (by simp [Array.getElem?_eq_getElem hi'])
      rw [List.getElem?_eq_getElem (by omega)] at this
      exact ⟨_, this⟩
    cases ty with
    | int k =>
      simp only [decide_eq_true_eq] at h
      obtain ⟨m, rfl, _, hw⟩ := DataW.trod_int (of_tkind hD h) hx
      unfold Lit.wf at hw
      simp only [Bool.and_eq_true, decide_eq_true_eq] at hw
      exact ⟨m, rfl, hw⟩
    | bool =>
      obtain ⟨b, rfl, _⟩ := DataW.trod_bool (of_tbool hD h) hx
      exact ⟨b, rfl, trivial⟩
    | str =>
      obtain ⟨s, rfl, _, hs⟩ := DataW.trod_string (of_tstr hD h) hx
      exact ⟨s, rfl, hs⟩
    | flt k =>
      have ht := of_tflt hD (by simpa using h)
      obtain ⟨b, rfl, hw⟩ := trod_flt ht hx
      exact ⟨b, rfl, hw⟩
    | raw => cases h
    | arr m e => cases h
    | one a =>
      simp only at h
      split at h
      · rename_i sz o t0 z b bt en hl
        simp only [Bool.and_eq_true] at h
        have ho := beq_eq h.1
        subst ho
        obtain ⟨m, hm, hlen, hall⟩ := fields _ _ _ _ _ _ hl
        obtain ⟨x', hx'⟩ := hall (0, t0) (by simp)
        simp only [List.drop_zero] at hx'
        rw [(opB_size hD h.2).1, List.take_of_length_le (by rw [hlen]; exact Nat.le_refl _)] at hx'
        obtain ⟨y, h1, h2⟩ := open_ty hD n t0 a h.2 m cs x' hx'
        exact ⟨y, h1, h2⟩
      · cases h
    | pair a b =>
      simp only at h
      split at h
      · rename_i sz fs z bb bt en hl
        obtain ⟨m, hm, hlen, hall⟩ := fields _ _ _ _ _ _ hl
        have := open_fs (cs := cs) (fun t ty ht cs x hx => open_ty hD n t ty ht m cs x hx) (fun t ty ht => (opB_size hD ht).1) fs (.pair a b) 0 h (by rw [hlen]; omega) hall
        simpa using this
      · cases h
    | list e =>
      simp only at h
      cases he : telem D t with
      | none => rw [he] at h; cases h
      | some e' =>
        rw [he] at h
        simp only at h
        obtain ⟨hs, hs0⟩ := opB_size hD h
        rcases Deep.open_slice (of_telem hD he) hx with ⟨rfl, _⟩ | ⟨a, len, cap, m, n', Df, Pl, rfl, hb, hle, hcap, hm, _, hall⟩
        · exact ⟨[], ⟨none, 0, rfl, Nat.le_refl _, fun i hi => absurd hi (Nat.not_lt_zero _)⟩, Nat.zero_le _, fun i hi => absurd hi (Nat.not_lt_zero _)⟩
        · have hmle : len ≤ m := by rw [hm]; split <;> omega
          have key : ∀ i, i < len → ∃ y : e.den, e.inB y ∧ ∃ cs', FzC (fun _ => True) w e y cs' ∧ ∀ j (hj : j < cs'.length), w.cell? ⟨a.block, a.off + i * e.size + j, none⟩ = some cs'[j] := by
            intro i hi
            obtain ⟨cs', h1, h2⟩ := hall i (by omega)
            obtain ⟨y, hy, hyb⟩ := open_ty hD n e' e h n' cs' _ h2
            refine ⟨y, hyb, cs', hy, fun j hj => ?_⟩
            obtain ⟨_, hl, hc⟩ := World.cells?_some h1
            rw [hs] at hl hc
            have h0 := hc 0 hs0
            have hz : 0 < cs'.length := by omega
            have := hc j (by omega)
            rw [List.getElem?_eq_getElem hj] at this
            have hsp := World.cell?_spot this
            unfold Addr.add at this hsp
            obtain ⟨ab, ao, asp⟩ := a
            by_cases hi0 : i * e.size = 0
            · rw [if_pos hi0] at this hsp
              by_cases hj0 : j = 0
              · subst hj0
                simp only [if_true] at this hsp
                subst hsp
                rw [hi0]; exact this
              · rw [if_neg hj0] at this
                simp only at this ⊢
                rw [hi0]; exact this
            · rw [if_neg hi0] at this hsp
              by_cases hj0 : j = 0
              · subst hj0
                simp only [if_true] at this
                exact this
              · rw [if_neg hj0] at this
                exact this
          letI : Inhabited e.den := ⟨e.dft⟩
          obtain ⟨f, hf⟩ := Deep.choose_lt key
          refine ⟨(List.range len).map f, ⟨some a, cap, by simp, by simpa using hle, fun i hi => ?_⟩, by simp; omega, fun i hi => ?_⟩
          · have hi' : i < len := by simpa using hi
            obtain ⟨_, cs', h1, h2⟩ := hf i hi'
            have hpos : 0 < cs'.length := by rw [h1.len]; exact hs0
            have hcell := h2 0 hpos
            refine ⟨a.block, a.off, cs', ?_, trivial, World.block_lt_of_cell? w ⟨a.block, _, none⟩ hcell, by simpa using h1, h2⟩
            obtain ⟨c0, e0, _⟩ := hall 0 (by omega)
            obtain ⟨_, hl0, hc0⟩ := World.cells?_some e0
            rw [hs] at hl0 hc0
            have := hc0 0 hs0
            rw [List.getElem?_eq_getElem (by omega)] at this
            have hsp := World.cell?_spot this
            rw [Nat.zero_mul] at hsp
            simp only [Addr.add, if_true] at hsp
            obtain ⟨ab, ao, asp⟩ := a
            simp only at hsp; subst hsp; rfl
          · simp
            exact (hf i (by simpa using hi)).1
theorem opB_agg {D : Tab} (hD : TabOk P D) {n : Nat} {t : TypeId} {ty : Ty} (h : opB D n t ty = true) : (ty.isAgg = true ∧ ∃ fs, P.underlying t = some (.struct fs)) ∨
    (ty.isAgg = false ∧ ((∃ k, P.underlying t = some (.int k)) ∨ P.underlying t = some .bool ∨ P.underlying t = some .string ∨ (∃ e, P.underlying t = some (.slice e)) ∨ ∃ k, P.underlying t = some (.float k))) := by
  cases n with
  | zero => cases h
  | succ n =>
    unfold opB at h
    simp only [Bool.and_eq_true] at h
    obtain ⟨_, h⟩ := h
    cases ty with
    | int k => exact .inr ⟨rfl, .inl ⟨k, of_tkind hD (by simpa using h)⟩⟩
    | bool => exact .inr ⟨rfl, .inr (.inl (of_tbool hD h))⟩
    | str => exact .inr ⟨rfl, .inr (.inr (.inl (of_tstr hD h)))⟩
    | flt k => exact .inr ⟨rfl, .inr (.inr (.inr (.inr ⟨k, of_tflt hD (by simpa using h)⟩)))⟩
    | raw => cases h
    | arr m e => cases h
    | list e =>
      simp only at h
      cases he : telem D t with
      | none => rw [he] at h; cases h
      | some e' => exact .inr ⟨rfl, .inr (.inr (.inr (.inl ⟨e', of_telem hD he⟩)))⟩
    | one a =>
      simp only at h
      split at h
      · rename_i hl; obtain ⟨fs, h1, _⟩ := of_tstruct hD hl; exact .inl ⟨rfl, fs, h1⟩
      · cases h
    | pair a b =>
      simp only at h
      split at h
      · rename_i hl; obtain ⟨fs, h1, _⟩ := of_tstruct hD hl; exact .inl ⟨rfl, fs, h1⟩
      · cases h
/-- the state ahead of a law: nothing is its own -/
def Cx.start (G : List (Nat × Value)) (w : World) : Cx := ⟨fun _ => none, [], fun _ => False, w, G⟩
theorem start_I {G : List (Nat × Value)} {w : World} (b : Nat) : (Cx.start G w).I b := ⟨fun h => h, fun t h => by obtain ⟨o, h1, _⟩ := h; simp [Cx.start] at h1⟩
theorem start_fz {G : List (Nat × Value)} {w : World} {t : Ty} {x : t.den} {cs : List Value} (h : FzC (fun _ => True) w t x cs) : FzC (Cx.start G w).I (Cx.start G w).w t x cs := h.mono fun b _ _ => ⟨start_I b, rfl⟩
theorem open_val {D : Tab} (hD : TabOk P D) {n : Nat} {t : TypeId} {ty : Ty} (hop : opB D n t ty = true) {r : Reach} {b0 : Nat} {v : Value} {d : DataW H} {ps : List MemPlace} (G : List (Nat × Value)) (hv : Value.okWide P w r b0 t v)
    (hd : DataW.Trod enc P w base spare held t v d ps) : ∃ y : ty.den, Rel (Cx.start G w) (.fz ty y) v ∧ ty.inB y := by
  obtain ⟨fuel, hf⟩ := hd
  obtain ⟨y, h1, h2⟩ := open_ty hD n t ty hop fuel _ _ hf
  refine ⟨y, ?_, h2⟩
  have hr := rel_fz_mk (start_fz (G := G) h1)
  have : valOf ty v.cells.toList = v := by
    unfold valOf
    rcases opB_agg hD hop with ⟨ha, fs, hs⟩ | ⟨ha, hs⟩
    · obtain ⟨cs, rfl, _⟩ := WideShapes.okWide_struct hs hv
      rw [if_pos ha]; simp [Value.cells]
    · rw [if_neg (by simp [ha])]
      rcases hs with ⟨k, hs⟩ | hs | hs | ⟨e, hs⟩ | ⟨k, hs⟩
      · obtain ⟨m, rfl⟩ := WideShapes.okWide_int hs hv; rfl
      · obtain ⟨m, rfl⟩ := WideShapes.okWide_bool hs hv; rfl
      · obtain ⟨m, rfl⟩ := WideShapes.okWide_string hs hv; rfl
      · obtain ⟨a, len, cap, rfl⟩ := WideShapes.okWide_slice hs hv; rfl
      · simp only [Value.okWide, hs, Cell.okWide] at hv
        cases v <;> simp_all [Cell.ok, Value.cells]
  rw [← this]; exact hr
def tptrTo (D : Tab) (t : TypeId) : Option TypeId := match tlook D t with
  | some i => match i.d with
    | .ptr e => some e
    | _ => none
  | none => none
theorem of_tptrTo {D : Tab} (hD : TabOk P D) {t e : TypeId} (h : tptrTo D t = some e) : P.underlying t = some (.pointer e) := by
  unfold tptrTo at h
  cases hi : tlook D t with
  | none => rw [hi] at h; cases h
  | some x =>
    rw [hi] at h
    obtain ⟨i, d, _, h2, _, h4, _⟩ := tlook_info hD hi
    simp only at h
    cases hd : x.d <;> rw [hd] at h h4 <;> try (cases h; done)
    cases d <;> try (cases h4; done)
    cases h
    rw [h2, beq_eq h4]
theorem open_ptr {D : Tab} (hD : TabOk P D) {n : Nat} {t e : TypeId} {ty : Ty} (hp : tptrTo D t = some e) (hop : opB D n e ty = true) {r : Reach} {b0 : Nat} {v : Value} {d : DataW H} {ps : List MemPlace} (G : List (Nat × Value)) (hv : Value.okWide P w r b0 t v)
    (hd : DataW.Trod enc P w base spare held t v d ps) : v = .pointer none ∨ ∃ y : ty.den, Rel (Cx.start G w) (.fptr ty y) v ∧ ty.inB y := by
  obtain ⟨fuel, hf⟩ := hd
  have hu := of_tptrTo hD hp
  obtain ⟨a0, rfl⟩ := WideShapes.okWide_pointer hu hv
  rcases DataW.trod_pointer hu hf with ⟨h1, _⟩ | ⟨a, cs', y, m, _, h1, _, h2, h3⟩
  · simp [Value.cells] at h1; subst h1; exact .inl rfl
  · simp [Value.cells] at h1; subst h1
    obtain ⟨y', k1, k2⟩ := open_ty hD n e ty hop m _ _ h3
    obtain ⟨hs, hs0⟩ := opB_size hD hop
    obtain ⟨_, hl, hc⟩ := World.cells?_some h2
    rw [hs] at hl hc
    have h0 := hc 0 hs0
    rw [List.getElem?_eq_getElem (by omega)] at h0
    have hsp := World.cell?_spot h0
    simp only [Addr.add, if_true] at h0 hsp
    obtain ⟨ab, ao, asp⟩ := a
    simp only at hsp; subst hsp
    refine .inr ⟨y', ?_, k2⟩
    unfold Rel
    refine ⟨ab, ao, cs', rfl, start_I ab, World.block_lt_of_cell? w _ h0, start_fz k1, fun j hj => ?_⟩
    have := hc j (by omega)
    rw [List.getElem?_eq_getElem hj] at this
    unfold Addr.add at this
    by_cases hj0 : j = 0
    · subst hj0; rw [if_pos rfl] at this; exact this
    · rw [if_neg hj0] at this; exact this
end
/-- what a known variable must be ahead of a law -/
def Glo0 (w : World) (g : Nat) (v : Value) : Prop := w.cell? ⟨g, 0, none⟩ = some v ∧ ocell v = true ∧ ∀ T a, v = .iface T (.pointer (some a)) → ∃ cs et, w.heap[a.block]? = some (.cells cs et (0, 0))
/-- .. and what a known table must be -/
def GloT (w : World) (g : Nat) (v : Value) : Prop := ∃ cs et fr, v = .agg cs ∧ w.heap[g]? = some (.cells cs et fr)
theorem Glo0.noTab {w : World} {g : Nat} {v : Value} (h : Glo0 w g v) : isTab v = false := by
  have := h.2.1
  cases v <;> first | rfl | cases this
def hasBodyB (P : Program) (f : FuncId) : Bool := match P.funcs[f]? with
  | some fn => !fn.body.isNone && !(fn.name == "runtime.NumGoroutine")
  | none => false
theorem hasBodyB_of {P : Program} {f : FuncId} (h : hasBodyB P f = true) : hasBody P f := by
  unfold hasBodyB at h
  cases hf : P.funcs[f]? with
  | none => rw [hf] at h; cases h
  | some fn =>
    rw [hf] at h
    simp only [Bool.and_eq_true, Bool.not_eq_true'] at h
    exact ⟨fn, hf, h.1, h.2⟩
theorem callsX_body {P : Program} {f : FuncId} {vs : Array Value} {w : World} {R : Ending → World → Prop} (h : CallsX P f vs w R) (hb : hasBody P f) : Calls P f vs w R := by
  rcases h with h | ⟨v, w', h0, _⟩
  · exact h.2
  · rw [run_callFunc hb] at h0; cases h0
/-- a contract, run ahead of which nothing is one's own -/
theorem acall_start {P : Program} {G : List (Nat × Value)} {f : FuncId} {args : List AV} {K : AV → List AO → Prop} {w : World} {vs : List Value} (hc : ACall P G f args [] K) (hB : hasBodyB P f = true)
    (hg : ∀ g v, gk G g = some v → Glo0 w g v ∨ GloT w g v) (hv : RelL (Cx.start G w) args vs) :
    Calls P f vs.toArray w fun e w' => ∃ v c' r, e = .returned v ∧ c'.w = w' ∧ Below w.heap.size w w' ∧ Rel c' r v ∧ K r c'.A := by
  have H : HR (Cx.start G w) := ⟨fun t b h => by obtain ⟨o, h1, _⟩ := h; simp [Cx.start] at h1, fun t u b h => by obtain ⟨o, h1, _⟩ := h; simp [Cx.start] at h1,
    fun t o h => by simp [Cx.start] at h, fun b h => h.elim, fun g v h => by
      rcases hg g v h with q | ⟨cs, et, fr, rfl, q⟩
      · exact ⟨start_I g, fun _ => q.1, fun _ => q.2.1, fun T a e => ⟨start_I _, q.2.2 T a e⟩, fun cs e => by have := q.noTab; rw [e] at this; cases this⟩
      · exact ⟨start_I g, fun h => (by cases h), fun h => (by cases h), fun T a e => (by cases e), fun cs' e => by cases e; exact ⟨et, fr, q⟩⟩⟩
  refine (callsX_body (hc.run (Cx.start G w) H rfl rfl vs hv) (hasBodyB_of hB)).mono fun e w' ⟨v, c', r, h1, h2, h3, h4, h5, h6⟩ => ⟨v, c', r, h1, h2, ?_, h5, h6⟩
  subst h2
  have hb : ∀ k, k < w.heap.size → c'.w.heap[k]? = w.heap[k]? := fun k hk => (h3.le.I k (start_I k) hk).2
  refine ⟨h3.st.os, h3.st.tape, h3.st.output, ?_, hb⟩
  rcases Nat.lt_or_ge c'.w.heap.size w.heap.size with hlt | hge
  · have := hb c'.w.heap.size hlt
    rw [Array.getElem?_eq_none (Nat.le_refl _), Array.getElem?_eq_getElem hlt] at this
    cases this
  · exact hge
/-- .. of a law that answers true -/
theorem acall_true' {P : Program} {G : List (Nat × Value)} {f : FuncId} {args : List AV} {w : World} {vs : List Value} (hc : ACall P G f args [] fun r _ => r = .fz .bool true)
    (hg : ∀ g v, gk G g = some v → Glo0 w g v ∨ GloT w g v) (hv : RelL (Cx.start G w) args vs) (hB : hasBodyB P f = true := by decide +kernel) :
    Calls P f vs.toArray w fun e w' => e = .returned (.bool true) ∧ Below w.heap.size w w' :=
  (acall_start hc hB hg hv).mono fun e w' ⟨v, c', r, h1, _, h3, h4, h5⟩ => by
    subst h5
    rw [rel_bool] at h4
    subst h4
    exact ⟨h1, h3⟩
theorem acall_true {P : Program} {G : List (Nat × Value)} {f : FuncId} {args : List AV} {w : World} {vs : List Value} (hc : ACall P G f args [] fun r _ => r = .fz .bool true)
    (hg : ∀ g v, gk G g = some v → Glo0 w g v) (hv : RelL (Cx.start G w) args vs) (hB : hasBodyB P f = true := by decide +kernel) :
    Calls P f vs.toArray w fun e w' => e = .returned (.bool true) ∧ Below w.heap.size w w' :=
  acall_true' hc (fun g v h => .inl (hg g v h)) hv hB
end Go.Ab
/-
  What a claim hands over, read as data of a type: with the bytes that it weighs.
-/
namespace Go.Ab
open Go Go.RowKit
/-- the lists weigh no more than a machine reaches -/
def Ty.inW (P : Program) : (t : Ty) → TypeId → t.den → Prop
  | .one a, t, x => ∀ f : Field, P.underlying t = some (.struct #[f]) → a.inW P f.type x
  | .list e, t, x => ∀ e', P.underlying t = some (.slice e') → List.length x * P.bytesOf e' ≤ reachBytes ∧ ∀ i (h : i < List.length x), e.inW P e' x[i]
  | _, _, _ => True
section
variable {H : Type} {enc : TypeId × Value → H} {P : Program} {w : World} {base : Nat} {spare : Nat → Bool} {held : Bool}
theorem mem_weightsAll {e : TypeId} : ∀ {l : List (DataW H)} {d : DataW H} {k : Nat}, d ∈ l → k ∈ d.weights P e → k ∈ DataW.weightsAll P e l
  | [], _, _, h, _ => by cases h
  | a :: l, d, k, h, hk => by
    unfold DataW.weightsAll
    rcases List.mem_cons.1 h with rfl | h
    · exact List.mem_append_left _ hk
    · exact List.mem_append_right _ (mem_weightsAll h hk)
theorem weights_first {t : TypeId} {ts : List TypeId} {d : DataW H} {ds : List (DataW H)} (h : (DataW.weightsEach P (t :: ts) (d :: ds)).all (· ≤ reachBytes) = true) : (∀ k ∈ d.weights P t, k ≤ reachBytes) ∧ (DataW.weightsEach P ts ds).all (· ≤ reachBytes) = true := by
  unfold DataW.weightsEach at h
  rw [List.all_append, Bool.and_eq_true] at h
  exact ⟨fun k hk => of_decide_eq_true (List.all_eq_true.1 h.1 k hk), h.2⟩
theorem open_tyW {D : Tab} (hD : TabOk P D) : ∀ (n : Nat) (t : TypeId) (ty : Ty), opB D n t ty = true → ∀ fuel cs x, DataW.trod enc P w base spare held fuel t cs = some x → (∀ k ∈ x.1.weights P t, k ≤ reachBytes) → ∃ y : ty.den, FzC (fun _ => True) w ty y cs ∧ ty.inB y ∧ ty.inW P t y
  | 0, _, _, h => by cases h
  | n + 1, t, ty, h => by
    intro fuel cs x hx hw
    have hS := opB_size hD h
    have hop := h
    unfold opB at h
    simp only [Bool.and_eq_true] at h
    obtain ⟨_, h⟩ := h
    cases ty with
    | one a =>
      simp only at h
      split at h
      · rename_i sz o t0 z b bt en hl
        simp only [Bool.and_eq_true] at h
        have ho := beq_eq h.1
        subst ho
        obtain ⟨fs, h1, h2⟩ := of_tstruct hD hl
        obtain ⟨f, hf, h3⟩ : ∃ f : Field, fs = #[f] ∧ (f.offset, f.type) = (0, t0) := by
          obtain ⟨l⟩ := fs
          simp only at h2
          cases l with
          | nil => simp at h2
          | cons f l => cases l with
            | nil => exact ⟨f, rfl, by simpa using h2⟩
            | cons g l => simp at h2
        subst hf
        simp only [Prod.mk.injEq] at h3
        obtain ⟨xs, m, hm, rfl, hlen, hxs, hf⟩ := DataW.trod_struct h1 hx
        obtain ⟨x0, rfl⟩ : ∃ x0, xs = [x0] := by
          cases xs with
          | nil => simp at hxs
          | cons f l => cases l with
            | nil => exact ⟨f, rfl⟩
            | cons g l => simp at hxs
        have := hf 0 f rfl
        rw [h3.1, h3.2, (opB_size hD h.2).1, List.drop_zero, List.take_of_length_le (by rw [hlen, hS.1]; exact Nat.le_refl _)] at this
        simp only [DataW.weights, h1, List.map_cons, List.map_nil, DataW.weightsEach, List.append_nil] at hw
        obtain ⟨y, h4, h5, h6⟩ := open_tyW hD n t0 a h.2 m cs x0 this (fun k hk => hw k (by rw [h3.2]; exact hk))
        refine ⟨y, h4, h5, fun f' hf' => ?_⟩
        rw [h1] at hf'
        obtain rfl : f = f' := by simpa using hf'
        rw [h3.2]; exact h6
      · cases h
    | list e =>
      simp only at h
      cases he : telem D t with
      | none => rw [he] at h; cases h
      | some e' =>
        rw [he] at h
        simp only at h
        obtain ⟨hs, hs0⟩ := opB_size hD h
        have hu := of_telem hD he
        rcases Deep.open_slice hu hx with ⟨rfl, _⟩ | ⟨a, len, cap, m, n', Df, Pl, rfl, hb, hle, hcap, hm, rfl, hall⟩
        · exact ⟨[], ⟨none, 0, rfl, Nat.le_refl _, fun i hi => absurd hi (Nat.not_lt_zero _)⟩, ⟨Nat.zero_le _, fun i hi => absurd hi (Nat.not_lt_zero _)⟩, fun e'' he'' => ⟨by simp [reachBytes], fun i hi => absurd hi (Nat.not_lt_zero _)⟩⟩
        · simp only [DataW.weights, hu] at hw
          have hw0 : len * P.bytesOf e' ≤ reachBytes := by
            have := hw _ (List.mem_cons_self ..)
            simp only [List.length_map, List.length_range] at this
            exact Nat.le_trans (Nat.mul_le_mul_right _ (Nat.le_add_right _ _)) this
          have hw1 : ∀ i, i < len → ∀ k ∈ (Df i).weights P e', k ≤ reachBytes := fun i hi k hk => hw _ (List.mem_cons_of_mem _ (List.mem_append_left _ (mem_weightsAll (List.mem_map.2 ⟨i, List.mem_range.2 hi, rfl⟩) hk)))
          have hmle : len ≤ m := by rw [hm]; split <;> omega
          have key : ∀ i, i < len → ∃ y : e.den, (e.inB y ∧ e.inW P e' y) ∧ ∃ cs', FzC (fun _ => True) w e y cs' ∧ ∀ j (hj : j < cs'.length), w.cell? ⟨a.block, a.off + i * e.size + j, none⟩ = some cs'[j] := by
            intro i hi
            obtain ⟨cs', h1, h2⟩ := hall i (by omega)
            obtain ⟨y, hy, hyb, hyw⟩ := open_tyW hD n e' e h n' cs' _ h2 (hw1 i hi)
            refine ⟨y, ⟨hyb, hyw⟩, cs', hy, fun j hj => ?_⟩
            obtain ⟨_, hl, hc⟩ := World.cells?_some h1
            rw [hs] at hl hc
            have h0 := hc 0 hs0
            have hz : 0 < cs'.length := by omega
            have := hc j (by omega)
            rw [List.getElem?_eq_getElem hj] at this
            have hsp := World.cell?_spot this
            unfold Addr.add at this hsp
            obtain ⟨ab, ao, asp⟩ := a
            by_cases hi0 : i * e.size = 0
            · rw [if_pos hi0] at this hsp
              by_cases hj0 : j = 0
              · subst hj0
                simp only [if_true] at this hsp
                subst hsp
                rw [hi0]; exact this
              · rw [if_neg hj0] at this
                simp only at this ⊢
                rw [hi0]; exact this
            · rw [if_neg hi0] at this hsp
              by_cases hj0 : j = 0
              · subst hj0
                simp only [if_true] at this
                exact this
              · rw [if_neg hj0] at this
                exact this
          letI : Inhabited e.den := ⟨e.dft⟩
          obtain ⟨f, hf⟩ := Deep.choose_lt key
          refine ⟨(List.range len).map f, ⟨some a, cap, by simp, by simpa using hle, fun i hi => ?_⟩, ⟨by simp; omega, fun i hi => ?_⟩, fun e'' he'' => ?_⟩
          · have hi' : i < len := by simpa using hi
            obtain ⟨_, cs', h1, h2⟩ := hf i hi'
            have hpos : 0 < cs'.length := by rw [h1.len]; exact hs0
            have hcell := h2 0 hpos
            refine ⟨a.block, a.off, cs', ?_, trivial, World.block_lt_of_cell? w ⟨a.block, _, none⟩ hcell, by simpa using h1, h2⟩
            obtain ⟨c0, e0, _⟩ := hall 0 (by omega)
            obtain ⟨_, hl0, hc0⟩ := World.cells?_some e0
            rw [hs] at hl0 hc0
            have := hc0 0 hs0
            rw [List.getElem?_eq_getElem (by omega)] at this
            have hsp := World.cell?_spot this
            rw [Nat.zero_mul] at hsp
            simp only [Addr.add, if_true] at hsp
            obtain ⟨ab, ao, asp⟩ := a
            simp only at hsp; subst hsp; rfl
          · simp
            exact (hf i (by simpa using hi)).1.1
          · rw [hu] at he''
            obtain rfl : e' = e'' := by cases he''; rfl
            refine ⟨by simpa using hw0, fun i hi => ?_⟩
            simp
            exact (hf i (by simpa using hi)).1.2
    | int k => obtain ⟨y, h1, h2⟩ := open_ty hD (n + 1) t _ hop fuel cs x hx; exact ⟨y, h1, h2, trivial⟩
    | bool => obtain ⟨y, h1, h2⟩ := open_ty hD (n + 1) t _ hop fuel cs x hx; exact ⟨y, h1, h2, trivial⟩
    | str => obtain ⟨y, h1, h2⟩ := open_ty hD (n + 1) t _ hop fuel cs x hx; exact ⟨y, h1, h2, trivial⟩
    | flt k => obtain ⟨y, h1, h2⟩ := open_ty hD (n + 1) t _ hop fuel cs x hx; exact ⟨y, h1, h2, trivial⟩
    | pair a b => obtain ⟨y, h1, h2⟩ := open_ty hD (n + 1) t _ hop fuel cs x hx; exact ⟨y, h1, h2, trivial⟩
    | raw => cases h
    | arr m e => cases h
theorem open_ptrW {D : Tab} (hD : TabOk P D) {n : Nat} {t e : TypeId} {ty : Ty} (hp : tptrTo D t = some e) (hop : opB D n e ty = true) {r : Reach} {b0 : Nat} {v : Value} {d : DataW H} {ps : List MemPlace} (G : List (Nat × Value)) (hv : Value.okWide P w r b0 t v)
    (hd : DataW.Trod enc P w base spare held t v d ps) (hw : ∀ k ∈ d.weights P t, k ≤ reachBytes) : v = .pointer none ∨ ∃ y : ty.den, Rel (Cx.start G w) (.fptr ty y) v ∧ ty.inB y ∧ ty.inW P e y := by
  obtain ⟨fuel, hf⟩ := hd
  have hu := of_tptrTo hD hp
  obtain ⟨a0, rfl⟩ := WideShapes.okWide_pointer hu hv
  rcases DataW.trod_pointer hu hf with ⟨h1, _⟩ | ⟨a, cs', y, m, _, h1, h4, h2, h3⟩
  · simp [Value.cells] at h1; subst h1; exact .inl rfl
  · simp [Value.cells] at h1; subst h1
    simp only [Prod.mk.injEq] at h4
    obtain ⟨rfl, _⟩ := h4
    simp only [DataW.weights, hu] at hw
    obtain ⟨y', k1, k2⟩ := open_tyW hD n e ty hop m _ _ h3 hw
    obtain ⟨hs, hs0⟩ := opB_size hD hop
    obtain ⟨_, hl, hc⟩ := World.cells?_some h2
    rw [hs] at hl hc
    have h0 := hc 0 hs0
    rw [List.getElem?_eq_getElem (by omega)] at h0
    have hsp := World.cell?_spot h0
    simp only [Addr.add, if_true] at h0 hsp
    obtain ⟨ab, ao, asp⟩ := a
    simp only at hsp; subst hsp
    refine .inr ⟨y', ?_, k2⟩
    unfold Rel
    refine ⟨ab, ao, cs', rfl, start_I ab, World.block_lt_of_cell? w _ h0, start_fz k1, fun j hj => ?_⟩
    have := hc j (by omega)
    rw [List.getElem?_eq_getElem hj] at this
    unfold Addr.add at this
    by_cases hj0 : j = 0
    · subst hj0; rw [if_pos rfl] at this; exact this
    · rw [if_neg hj0] at this; exact this
end
end Go.Ab
