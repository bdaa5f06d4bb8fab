/-
  Regions whose effects have no order of their own.
-/
import Derived.Test.YtgjjooophigkoaaGreatDoorM3
import Derived.OrdersIn
import Derived.RangeFuncCalls
import Derived.RangeFuncBox
import Derived.RangeFuncLeaves
import Derived.Shelf.Abstract
import Derived.ScopeJumps
import Derived.Maps.Keyed
import Derived.Laws.IdiomRangeMap
import Derived.Test.YtgjjooophigkoaaGreatDoorChecked
import Derived.WalkKit
import Derived.ProofKit
import Derived.OpenShut
import Derived.Carry
import Derived.WideKeyPair
namespace Go.Ab
open Go
theorem runP_mono {x : AR} {K K' : AV → Prop} (h : runP x K) (hk : ∀ v, K v → K' v) : runP x K' := by
  obtain ⟨C, v⟩ := x
  cases C with
  | none => unfold runP at *; simp only [forceV_eq] at *; exact hk _ h
  | some C => unfold runP at *; simp only [forceV_eq] at *; exact ⟨h.1, hk _ h.2⟩
theorem aRun_mono {P : Program} {D : Tab} {G : List (Nat × Value)} {A : List AO} {T : List (Nat × AV)} {op : Op} {K K' : AV → List AO → Prop} (h : aRun P D G A T op K) (hk : ∀ v A, K v A → K' v A) : aRun P D G A T op K' := by
  unfold aRun at *
  split
  · rename_i e he
    rw [he] at h
    simp only at h
    obtain ⟨C, v, A'⟩ := e
    cases C with
    | none => unfold runE at *; simp only [forceV_eq, forceA_eq] at *; exact hk _ _ h
    | some C => unfold runE at *; simp only [forceV_eq, forceA_eq] at *; exact ⟨h.1, hk _ _ h.2⟩
  · rename_i f args he
    rw [he] at h
    simp only [forceV_eq, forceA_eq] at *
    exact ACall.mono h hk
  · rename_i ty m args he
    rw [he] at h
    simp only [forceV_eq, forceA_eq] at *
    rcases h with ⟨f, h1, h2⟩ | ⟨f, e, h1, h2⟩
    · exact .inl ⟨f, h1, ACall.mono h2 hk⟩
    · refine .inr ⟨f, e, h1, ?_⟩
      cases args with
      | nil => exact h2
      | cons v rest =>
        obtain ⟨C, x, k1, k2, k3⟩ := h2
        exact ⟨C, x, k1, k2, ACall.mono k3 hk⟩
  · rename_i he
    rw [he] at h
    simp only [forceV_eq, forceA_eq] at *
    exact AAct.mono h hk
  · rename_i he
    rw [he] at h
    exact runP_mono h fun v => hk v A
  · rename_i he
    rw [he] at h
    exact h.elim
theorem agRun_mono {P : Program} {D : Tab} {G : List (Nat × Value)} {L : List Oper} {A : List AO} {T : List (Nat × AV)} {o : Oper} {K K' : AV → List AO → Prop} (h : agRun P D G L A T o K) (hk : ∀ v A, K v A → K' v A) : agRun P D G L A T o K' := by
  unfold agRun at *
  split
  · rename_i hg
    rw [hg] at h
    exact aRun_mono h hk
  · rename_i g hg
    rw [hg] at h
    simp only at h
    split
    · rename_i hq; rw [hq] at h; exact h.elim
    · rename_i t want hq
      rw [hq] at h
      simp only at h
      split
      · rename_i hb; rw [hb] at h; exact h.elim
      · rename_i b hb
        rw [hb] at h
        simp only at h
        split
        · rename_i hp
          rw [hp] at h
          exact runP_mono h fun v => hk v A
        · rename_i hp
          rw [hp] at h
          simp only at h
          refine ⟨fun hb => ?_, fun hb => hk _ _ (h.2 hb)⟩
          have h1 := h.1 hb
          generalize stripCs T o.op.operands.toList = C at *
          cases C with
          | none => exact aRun_mono h1 hk
          | some C => exact ⟨h1.1, aRun_mono h1.2 hk⟩
theorem tr_len2 {P : Program} {D : Tab} {G : List (Nat × Value)} {L : List Oper} {N : Nat} : ∀ {os : List Oper} {T : List (Nat × AV)} {A : List AO} {tr : List Rc} {Tf : List (Nat × AV)} {Af : List AO}, TrOk2 P D G L N os T A tr Tf Af → tr.length = os.length
  | [], _, _, _, _, _, h => by obtain ⟨rfl, _⟩ := h; rfl
  | o :: os, _, _, _, _, _, h => by obtain ⟨v, A1, tr', rfl, _, _, h⟩ := h; simp [tr_len2 h]
theorem tr_at2 {P : Program} {D : Tab} {G : List (Nat × Value)} {L : List Oper} {N : Nat} : ∀ {os : List Oper} {T : List (Nat × AV)} {A : List AO} {tr : List Rc} {Tf : List (Nat × AV)} {Af : List AO}, TrOk2 P D G L N os T A tr Tf Af → ∀ {i : Nat} {o : Oper}, os[i]? = some o →
    ∃ r, tr[i]? = some r ∧ r.o = o ∧ inB N o.dst = true ∧ (memless o.op = true → agRun P D G L r.A r.T o (fun v' A' => v' = r.v ∧ A' = r.A))
  | [], _, _, _, _, _, _, i, o, h => by simp at h
  | p :: os, _, _, _, _, _, h, i, o, hi => by
    obtain ⟨v, A1, tr', rfl, h1, hm, h4⟩ := h
    cases i with
    | zero => simp at hi; subst hi; exact ⟨_, rfl, rfl, h1, hm⟩
    | succ i => simpa using tr_at2 h4 (by simpa using hi)
theorem tr_lk2 {P : Program} {D : Tab} {G : List (Nat × Value)} {L : List Oper} {N : Nat} : ∀ {os : List Oper} {T : List (Nat × AV)} {A : List AO} {tr : List Rc} {Tf : List (Nat × AV)} {Af : List AO}, TrOk2 P D G L N os T A tr Tf Af → ∀ t, (∀ i r, tr[i]? = some r → lk r.T t = vAt tr t (lk T t) (fun _ => true) i) ∧ lk Tf t = vAt tr t (lk T t) (fun _ => true) tr.length
  | [], _, _, _, _, _, h, t => by
    obtain ⟨rfl, rfl, _⟩ := h
    exact ⟨fun i r h => by simp at h, rfl⟩
  | o :: os, T, A, _, Tf, Af, h, t => by
    obtain ⟨v, A1, tr', rfl, h1, hm, h4⟩ := h
    obtain ⟨k1, k2⟩ := tr_lk2 h4 t
    refine ⟨fun i r hi => ?_, ?_⟩
    · cases i with
      | zero => simp at hi; subst hi; rfl
      | succ i =>
        have hi : tr'[i]? = some r := by simpa using hi
        rw [vAt_cons _ _ _ _ _ (by have := get_lt hi; omega), k1 i r hi, lk_upd]
    · rw [List.length_cons, vAt_cons _ _ _ _ _ (Nat.le_refl _), k2, lk_upd]
def Cx.withRoom (c : Cx) : Cx := { c with A := c.A ++ [.room] }
theorem withRoom_sound {c : Cx} (H : HR c) : Ext c c.withRoom ∧ HR c.withRoom := by
  have oldA : ∀ t, t < c.A.length → c.withRoom.A[t]? = c.A[t]? := fun t h => by show (c.A ++ [_])[t]? = _; rw [List.getElem?_append_left h]
  have hlen : c.withRoom.A.length = c.A.length + 1 := by show (c.A ++ [_]).length = _; simp
  have newA : c.withRoom.A[c.A.length]? = some .room := by show (c.A ++ [_])[_]? = _; simp
  have hl : ∀ t, c.withRoom.live t → c.live t := fun t ⟨o, h1, h2⟩ => by
    have hlt := get_lt h1
    rw [hlen] at hlt
    by_cases h : t = c.A.length
    · subst h; rw [newA] at h1; cases h1; cases h2
    · rw [oldA t (by omega)] at h1; exact ⟨o, h1, h2⟩
  have E : Ext c c.withRoom := by
    refine ⟨⟨fun b hI _ => ⟨⟨hI.1, fun t ht => hI.2 t (hl t ht)⟩, rfl⟩, fun t ht => ?_, by rw [hlen]; omega⟩, rfl, rfl, fun b _ => rfl, ⟨rfl, rfl, rfl⟩⟩
    have := TokLe.refl ht
    unfold TokLe at *
    rw [oldA t ht]; exact this
  refine ⟨E, ⟨fun t b ht hb => H.far t b (hl t ht) hb, fun t u b ht hu => H.inj t u b (hl t ht) (hl u hu), fun t o h => ?_, H.old, fun g v h => (H.glo g v h).mono E.le.I⟩⟩
  by_cases h' : t < c.A.length
  · rw [oldA t h'] at h
    exact objOk_ext E (H.obj t o h) (fun _ _ _ => rfl)
  · have hlt := get_lt h
    rw [hlen] at hlt
    have : t = c.A.length := by omega
    subst this
    rw [newA] at h; cases h; trivial
def Cx.nilRows (c : Cx) : Nat → Cx
  | 0 => c
  | n + 1 => (c.nilRows n).withRoom
theorem nilRows_sound {c : Cx} (H : HR c) : ∀ n, Ext c (c.nilRows n) ∧ HR (c.nilRows n) ∧ (c.nilRows n).w = c.w ∧ (c.nilRows n).A = c.A ++ Ab.nilRows n
  | 0 => ⟨Ext.refl c, H, rfl, (List.append_nil _).symm⟩
  | n + 1 => by
    obtain ⟨h1, h2, h3, h4⟩ := nilRows_sound H n
    obtain ⟨k1, k2⟩ := withRoom_sound h2
    refine ⟨h1.trans k1, k2, h3, ?_⟩
    show (c.nilRows n).A ++ [AO.room] = c.A ++ (Ab.nilRows n ++ [AO.room])
    rw [h4, List.append_assoc]
structure DrawOk2 (L : List Oper) : Prop where
  back : ∀ (i : Nat) o, L[i]? = some o → ∀ e ∈ o.after.toList, bindsA e = true → e.on < i
  data : ∀ (i j : Nat) o p t, L[i]? = some o → L[j]? = some p → t ∈ looksOf L o → p.dst = some t → j ≠ i → if j < i then rch (amask L []) j i = true else rch (amask L []) i j = true
  same : ∀ (i j : Nat) o p d, L[i]? = some o → L[j]? = some p → o.dst = some d → p.dst = some d → i < j → rch (amask L []) i j = true
  eff : ∀ (i : Nat) o, L[i]? = some o → isEff o.op = true → i ∈ effsOf L 0
theorem drawOk2 {L : List Oper} (h : drawM2 L (amask L []) (effsOf L 0) = true) : DrawOk2 L := by
  unfold drawM2 at h
  have H : ∀ (i : Nat) o, L[i]? = some o → _ := fun i o hi => all_range h (get_lt hi)
  refine ⟨fun i o hi e he hb => ?_, fun i j o p t hi hj ht hd hne => ?_, fun i j o p d hi hj h1 h2 hlt => ?_, fun i o hi he => ?_⟩
  all_goals (have h0 := H i o hi; simp only [hi, Bool.and_eq_true] at h0; obtain ⟨⟨ha, hb'⟩, hc⟩ := h0)
  · have := List.all_eq_true.1 ha e he
    rw [hb] at this
    exact blt_of (by simpa using this)
  · have h1 := all_range hb' (get_lt hj)
    simp only [hj, Bool.and_eq_true] at h1
    have h2 := List.all_eq_true.1 h1.1 t ht
    rw [isDst_of hd] at h2
    simp only [Bool.not_true, Bool.false_or, Bool.or_eq_true] at h2
    rcases h2 with h2 | h2
    · exact absurd (beq_eq h2) hne
    · split at h2
      · rename_i hlt; rw [if_pos hlt]; exact h2
      · rename_i hlt; rw [if_neg hlt]; exact h2
  · have h3 := all_range hb' (get_lt hj)
    simp only [hj, Bool.and_eq_true, h1] at h3
    have h4 := h3.2
    rw [isDst_of h2] at h4
    have : Nat.blt i j = true := Nat.ble_eq_true_of_le hlt
    rw [this] at h4
    simpa using h4
  · rw [if_pos he] at hc
    simpa using hc
theorem stOps_at {P : Program} {D : Tab} {G : List (Nat × Value)} {L : List Oper} {M E : List Nat} {S : List (Nat × List AO)} {s : Nat} {A : List AO} : ∀ (tr : List Rc) {k0 : Nat}, stOps P D G L M E S s A tr k0 → ∀ (k : Nat) (i : Nat) (r : Rc), tr[i]? = some r → k = k0 →
    match okS M E (k + i) s with
    | false => True
    | true => match isEff r.o.op with
      | true => (match s.testBit (k + i) with
        | true => True
        | false => match lkS (s ||| (1 <<< (k + i))) S with
          | some A1 => agRun P D G L A r.T r.o fun v A' => View A.length v A' r.v A1
          | none => False)
      | false => match memless r.o.op with
        | true => True
        | false => agRun P D G L A r.T r.o fun v A' => v = r.v ∧ A' = A
  | [], _, _, _, _, _, h, _ => by simp at h
  | p :: tr, k0, h, k, i, r, hi, hk => by
    subst hk
    unfold stOps at h
    cases i with
    | zero => simp at hi; subst hi; exact h.1
    | succ i =>
      have := stOps_at tr h.2 (k + 1) i r (by simpa using hi) rfl
      rw [show k + 1 + i = k + (i + 1) by omega] at this
      exact this
theorem stAll_at {P : Program} {D : Tab} {G : List (Nat × Value)} {L : List Oper} {M E : List Nat} {S : List (Nat × List AO)} {tr : List Rc} {s : Nat} {A : List AO} : ∀ {S' : List (Nat × List AO)}, stAll P D G L M E S tr S' → lkS s S' = some A → stOps P D G L M E S s A tr 0
  | [], _, h => by cases h
  | (s', A') :: S', h, hl => by
    unfold lkS at hl
    split at hl
    · rename_i hb
      cases hl
      rw [← beq_eq hb]; exact h.1
    · exact stAll_at h.2 hl
theorem fullM_bit (j : Nat) : ∀ E : List Nat, (fullM E).testBit j = true ↔ j ∈ E
  | [] => by simp [fullM]
  | e :: E => by
    unfold fullM
    rw [Nat.testBit_or, Bool.or_eq_true, fullM_bit j E, Nat.one_shiftLeft, Nat.testBit_two_pow]
    simp [eq_comm]
theorem aRegion2_sound {P : Program} {D : Tab} (hD : TabOk P D) {L : List Oper} {N : Nat} {Qc : Exit → Act → World → Prop} {Q : List (Nat × AV) → List AO → Prop} {n0 : Nat} {c0 c : Cx} {T : List (Nat × AV)} {a : Act}
    (H : HR c) (hT : TR c T a.tmps) (E0 : ExtN n0 c0 c) (hd : a.defers = []) (hN : a.tmps.size = N) (h : aRegion2 P D c0.G N L T c.A Q)
    (hq : ∀ c' a' T', HR c' → TR c' T' a'.tmps → ExtN n0 c0 c' → a'.defers = [] → a'.tmps.size = N → Q T' c'.A → Qc .normal a' c'.w) : wpAny P .any L.toArray Qc L.length (Array.replicate L.length false) a c.w := by
  obtain ⟨hB, h⟩ := h
  have ok := drawOk2 hB
  obtain ⟨n, h⟩ := h
  obtain ⟨n1, n2, n3, n4⟩ := nilRows_sound H n
  rw [← n3]
  rw [← n4] at h
  have hT := hT.ext n1
  have E0 := E0.step n1
  clear n1 n3 n4
  generalize c.nilRows n = c at *
  have H := n2
  clear n2
  obtain ⟨tr, Tf, Af, htr, hend⟩ := aDraw2_tr L T c.A [] h
  rw [List.reverse_nil, List.nil_append] at hend
  clear h
  obtain ⟨S, hS0, hSf, hst, hQ⟩ := hend
  have hlen := tr_len2 htr
  have hat := fun (i : Nat) (o : Oper) (hi : L[i]? = some o) => tr_at2 htr hi
  have hlk := fun t => tr_lk2 htr t
  have hS : ∀ s A, lkS s S = some A → stOps P D c0.G L (amask L []) (effsOf L 0) S s A tr 0 := fun s A h => stAll_at hst h
  -- what holds whenever some have come
  have key : ∀ (fuel : Nat) (listed : Array Bool) (c : Cx) (a : Act), listed.size = L.length → (List.range L.length).countP (fun i => !listed.getD i false) = fuel → HR c → ExtN n0 c0 c → a.defers = [] → a.tmps.size = N →
      (∀ t, Rel c (vAt tr t (lk T t) (fun j => listed.getD j false) tr.length) (a.tmps.getD t undef)) → (∀ (i : Nat) o, L[i]? = some o → listed.getD i false = true → ∀ e ∈ o.after.toList, bindsA e = true → listed.getD e.on false = true) →
      (∃ s, (∀ j, s.testBit j = true ↔ j ∈ effsOf L 0 ∧ listed.getD j false = true) ∧ lkS s S = some c.A) → wpAny P .any L.toArray Qc fuel listed a c.w := by
    intro fuel
    induction fuel with
    | zero =>
      intro listed c a hsz hcnt H E hd hN hval hdown hk
      obtain ⟨s, hs, hkA⟩ := hk
      have hall : ∀ i, i < L.length → listed.getD i false = true := fun i hi => by
        have := List.countP_eq_zero.1 hcnt i (List.mem_range.2 hi)
        simpa using this
      refine ⟨?_, ?_⟩
      · cases hr : Region.ready .any L.toArray listed with
        | nil => rfl
        | cons i l =>
          have hi : i ∈ Region.ready .any L.toArray listed := by rw [hr]; exact List.mem_cons_self ..
          obtain ⟨h1, o, h2, _⟩ := mem_ready.1 hi
          have hlt : i < L.length := get_lt (by simpa using h2)
          have := getD_both h1
          rw [hall i hlt] at this; cases this
      · have hfull : s = fullM (effsOf L 0) := by
          refine Nat.eq_of_testBit_eq fun j => ?_
          rw [Bool.eq_iff_iff, hs j, fullM_bit]
          refine ⟨fun h => h.1, fun h => ⟨h, ?_⟩⟩
          obtain ⟨o, ho, _, _⟩ := effs_at L 0 j h
          exact hall j (by have := get_lt ho; omega)
        rw [hfull, hSf] at hkA
        have hAf : c.A = Af := (Option.some.inj hkA).symm
        refine hq c a Tf H (fun t => ?_) E hd hN (by rw [hAf]; exact hQ)
        rw [(hlk t).2]
        have := hval t
        rwa [vAt_same (S' := fun _ => true) _ (fun j r hj _ _ => hall j (by omega))] at this
    | succ fuel ih =>
      intro listed c a hsz hcnt H E hd hN hval hdown hk
      obtain ⟨s, hs, hkA⟩ := hk
      have closed : ∀ i j, rch (amask L []) j i = true → listed.getD i false = true → listed.getD j false = true := by
        intro i
        induction i using Nat.strongRecOn with
        | _ i ihi =>
          intro j hr hl
          obtain ⟨o, ho, e, he, hb, hx⟩ := rch_step hr
          have hle := hdown i o ho hl e he hb
          rcases hx with rfl | hx
          · exact hle
          · exact ihi e.on (ok.back i o ho e he hb) j hx hle
      refine ⟨fun h0 => ?_, fun i hi => ?_⟩
      · -- some one is ready
        have hpos : 0 < (List.range L.length).countP (fun i => !listed.getD i false) := by omega
        obtain ⟨i, h1, h2⟩ := List.countP_pos_iff.1 hpos
        obtain ⟨m, ⟨m1, m2⟩, m3⟩ := least_of (p := fun i => i < L.length ∧ listed.getD i false = false) i ⟨List.mem_range.1 h1, by simpa using h2⟩
        exfalso
        have : m ∈ Region.ready .any L.toArray listed := by
          refine mem_ready.2 ⟨getD_in (by omega) m2, L[m], by simp [m1], fun e he hb => ?_⟩
          have hlt := ok.back m L[m] (List.getElem?_eq_getElem m1) e (by simpa using he) hb
          cases hl : listed.getD e.on false with
          | true => rfl
          | false => exact absurd ⟨by omega, hl⟩ (m3 e.on hlt)
        rw [h0] at this; cases this
      · obtain ⟨hun, o, ho, haft⟩ := mem_ready.1 hi
        have ho : L[i]? = some o := by simpa using ho
        have hil := get_lt ho
        have hun := getD_both hun
        have rclosed : ∀ j, rch (amask L []) j i = true → listed.getD j false = true := fun j hr => by
          obtain ⟨o', ho', e, he, hb, hx⟩ := rch_step hr
          rw [ho] at ho'; cases ho'
          have hle := haft e (by simpa using he) hb
          rcases hx with rfl | hx
          · exact hle
          · exact closed _ _ hx hle
        obtain ⟨r, hr, hro, hin, hrm⟩ := hat i o ho
        have htlk : ∀ t, t ∈ looksOf L o → Rel c (lk r.T t) (a.tmps.getD t undef) := fun t ht => by
          rw [(hlk t).1 i r hr]
          have := hval t
          rwa [vAt_cut (i := i) (fun j p hj hp hdst => ?_) tr.length (by omega) (fun j p h1 h2 hp hdst => ?_)] at this
          · obtain ⟨q, hq1, hq2⟩ : ∃ q, L[j]? = some q ∧ q = p.o := by
              have hjl : j < L.length := by have := get_lt hp; omega
              obtain ⟨r', hr', hro', _⟩ := hat j L[j] (List.getElem?_eq_getElem hjl)
              rw [hp] at hr'; cases hr'
              exact ⟨_, List.getElem?_eq_getElem hjl, hro'.symm⟩
            have := ok.data i j o q t ho hq1 ht (by rw [hq2]; exact hdst) (by omega)
            rw [if_pos hj] at this
            exact rclosed j this
          · by_cases hji : j = i
            · subst hji; exact hun
            · obtain ⟨q, hq1, hq2⟩ : ∃ q, L[j]? = some q ∧ q = p.o := by
                have hjl : j < L.length := by have := get_lt hp; omega
                obtain ⟨r', hr', hro', _⟩ := hat j L[j] (List.getElem?_eq_getElem hjl)
                rw [hp] at hr'; cases hr'
                exact ⟨_, List.getElem?_eq_getElem hjl, hro'.symm⟩
              have := ok.data i j o q t ho hq1 ht (by rw [hq2]; exact hdst) hji
              rw [if_neg (by omega)] at this
              cases hl : listed.getD j false with
              | false => rfl
              | true => rw [closed _ _ this hl] at hun; cases hun
        have tied : Tied L c r.T a o := by
          refine ⟨fun x hx => ev_of fun t ht => htlk t ?_, fun t want hg => htlk t ?_⟩
          · unfold looksOf
            exact List.mem_append_right _ (mem_tmps (by subst ht; simpa using hx))
          · unfold looksOf; rw [hg]; exact List.mem_append_left _ (List.mem_cons_self ..)
        -- the run at the memory that there is
        have hop := stOps_at tr (hS s c.A hkA) 0 i r hr rfl
        rw [Nat.zero_add] at hop
        have hokS : okS (amask L []) (effsOf L 0) i s = true := by
          unfold okS
          rw [List.all_eq_true]
          intro e he
          simp only [Bool.and_eq_true, Bool.or_eq_true, Bool.not_eq_true']
          constructor
          · cases h1 : rch (amask L []) e i with
            | false => exact .inl rfl
            | true => exact .inr ((hs e).2 ⟨he, rclosed e h1⟩)
          · cases h1 : rch (amask L []) i e with
            | false => exact .inl rfl
            | true =>
              refine .inr ?_
              cases h2 : s.testBit e with
              | false => rfl
              | true =>
                have := closed e i h1 ((hs e).1 h2).2
                rw [hun] at this; cases this
        have hnb : s.testBit i = false := by
          cases h2 : s.testBit i with
          | false => rfl
          | true => have := ((hs i).1 h2).2; rw [hun] at this; cases this
        rw [hokS, hro] at hop
        have step : ∃ A1 s', agRun P D c0.G L c.A r.T o (fun v' A' => (v' = r.v ∧ A' = A1) ∨ View c.A.length v' A' r.v A1) ∧ (∀ j, s'.testBit j = true ↔ j ∈ effsOf L 0 ∧ (decide (j = i) || listed.getD j false) = true) ∧ lkS s' S = some A1 := by
          cases he : isEff o.op with
          | true =>
            rw [he, hnb] at hop
            cases hl : lkS (s ||| (1 <<< i)) S with
            | none => rw [hl] at hop; exact hop.elim
            | some A1 =>
              rw [hl] at hop
              refine ⟨A1, _, agRun_mono hop (fun v' A' h => .inr h), fun j => ?_, hl⟩
              have hiE : i ∈ effsOf L 0 := ok.eff i o ho he
              rw [Nat.testBit_or, Nat.one_shiftLeft, Nat.testBit_two_pow, Bool.or_eq_true, hs j]
              simp only [decide_eq_true_eq, Bool.or_eq_true]
              constructor
              · rintro (⟨h1, h2⟩ | h1)
                · exact ⟨h1, .inr h2⟩
                · exact ⟨h1 ▸ hiE, .inl h1.symm⟩
              · rintro ⟨h1, h2 | h2⟩
                · exact .inr h2.symm
                · exact .inl ⟨h1, h2⟩
          | false =>
            rw [he] at hop
            have hop2 : agRun P D c0.G L c.A r.T o (fun v' A' => v' = r.v ∧ A' = c.A) := by
              cases hm : memless o.op with
              | true => exact agRun_memless hm (hrm hm)
              | false =>
                rw [hm] at hop
                exact hop
            refine ⟨c.A, s, agRun_mono hop2 (fun v' A' h => .inl h), fun j => ?_, hkA⟩
            have hne : j ∈ effsOf L 0 → j ≠ i := fun hj hji => by
              obtain ⟨p, hp, hpe, _⟩ := effs_at L 0 j hj
              rw [Nat.sub_zero, hji, ho] at hp; cases hp
              rw [he] at hpe; cases hpe
            rw [hs j]
            constructor
            · rintro ⟨h1, h2⟩; exact ⟨h1, by simp [h2]⟩
            · rintro ⟨h1, h2⟩; exact ⟨h1, by simpa [hne h1] using h2⟩
        obtain ⟨A1, s', hrun', hk1, hk2⟩ := step
        rw [← E.G] at hrun'
        refine agRun_sound hD H ho tied hrun' fun c1 u rv E1 H1 hrel1 hK => ?_
        have seen : ∃ c' : Cx, c'.w = c1.w ∧ Ext c c' ∧ HR c' ∧ Rel c' r.v u ∧ c'.A = A1 := by
          rcases hK with ⟨rfl, hA⟩ | ⟨p, g1, g2, g3, g4⟩
          · exact ⟨c1, rfl, E1, H1, hrel1, hA⟩
          · have R := renOk_view g1 g2
            obtain ⟨e1, e2⟩ := ren_sound H1 R
            have e3 := E1.toN.trans e1
            refine ⟨c1.ren (nameOf p) A1, rfl, ⟨e3.le, e3.X, e3.G, e3.far, e3.st⟩, e2, ?_, rfl⟩
            exact ren_rel R r.v u g4 (by rw [← g3]; exact hrel1)
        obtain ⟨c', hw', E', H', hrel, hcA⟩ := seen
        rw [← hw']
        have hset : ∀ j, (listed.setIfInBounds i true).getD j false = (decide (j = i) || listed.getD j false) := fun j => by
          by_cases hj : j = i
          · subst hj
            have : j < listed.size := by omega
            simp [Array.getD_eq_getD_getElem?, this]
          · rw [getD_set_ne false (fun e => hj e.symm)]; simp [hj]
        have hputs : (a.put o.dst u).tmps.size = N ∧ (a.put o.dst u).defers = a.defers ∧ ∀ t, (a.put o.dst u).tmps.getD t undef = if o.dst = some t then u else a.tmps.getD t undef := by
          cases hdst : o.dst with
          | none => exact ⟨hN, rfl, fun t => by rw [if_neg (by simp)]; rfl⟩
          | some d =>
            rw [hdst] at hin
            have hdN := blt_of hin
            refine ⟨by unfold Act.put; simp [hN], rfl, fun t => ?_⟩
            unfold Act.put
            by_cases hdt : d = t
            · subst hdt; simp [Array.getD_eq_getD_getElem?, hN, hdN]
            · simp [Array.getD_eq_getD_getElem?, hdt]
        refine ih (listed.setIfInBounds i true) c' (a.put o.dst u) (by simpa using hsz) ?_ H' (E.step E') (hputs.2.1.trans hd) hputs.1 (fun t => ?_) (fun j p hj hl e he hb => ?_) ⟨s', fun j => by rw [hset]; exact hk1 j, by rw [hk2, hcA]⟩
        · have := countP_one (n := L.length) (i := i) (p := fun i => !listed.getD i false) (q := fun j => !(listed.setIfInBounds i true).getD j false) hil (by simp only [hun]; rfl) (by simp only [hset]; simp) (fun j hj => by simp only [hset]; simp [hj])
          omega
        · have e1 : vAt tr t (lk T t) (fun j => (listed.setIfInBounds i true).getD j false) tr.length = vAt tr t (lk T t) (fun j => decide (j = i) || listed.getD j false) tr.length := vAt_same _ fun j _ _ _ _ => hset j
          rw [e1, vAt_add hr tr.length (by omega) (fun j p hj hp hpd hrd hl => ?_), hputs.2.2 t, hro]
          · by_cases hdt : o.dst = some t
            · rw [if_pos hdt, if_pos hdt]; exact hrel
            · rw [if_neg hdt, if_neg hdt]; exact (hval t).ext E'
          · rcases Nat.lt_trichotomy j i with h | h | h
            · exact h
            · subst h
              have hl : listed.getD j false = true := hl
              rw [hun] at hl; cases hl
            · have hjl : j < L.length := by omega
              obtain ⟨r', hr', hro', _⟩ := hat j L[j] (List.getElem?_eq_getElem hjl)
              rw [hp] at hr'; cases hr'
              rw [hro] at hrd
              rw [hro'] at hpd
              have := ok.same i j o L[j] t ho (List.getElem?_eq_getElem hjl) hrd hpd h
              rw [closed _ _ this hl] at hun; cases hun
        · rw [hset] at hl ⊢
          by_cases hji : j = i
          · subst hji
            rw [ho] at hj; cases hj
            rw [haft e (by simpa using he) hb]; simp
          · have hl : listed.getD j false = true := by simpa [hji] using hl
            rw [hdown j p hj hl e he hb]; simp
  have hcnt0 : (List.range L.length).countP (fun i => !(Array.replicate L.length false).getD i false) = L.length := by
    rw [List.countP_eq_length.2 (fun i _ => by rw [getD_replicate_false]; rfl)]; simp
  refine key L.length (Array.replicate L.length false) c a (by simp) hcnt0 H E0 hd hN (fun t => ?_) (fun i o _ hl => by rw [getD_replicate_false] at hl; cases hl) ⟨0, fun j => by rw [getD_replicate_false]; simp, hS0⟩
  have : vAt tr t (lk T t) (fun j => (Array.replicate L.length false).getD j false) tr.length = lk T t := by
    have := vAt_cut (tr := tr) (t := t) (cur := lk T t) (S := fun j => (Array.replicate L.length false).getD j false) (i := 0) (fun j r h => by omega) tr.length (Nat.zero_le _) (fun j r _ _ _ _ => getD_replicate_false _ _)
    rw [this]; rfl
  rw [this]; exact hT t
theorem aRegion_sound {P : Program} {D : Tab} (hD : TabOk P D) {L : List Oper} {N : Nat} {Qc : Exit → Act → World → Prop} {Q : List (Nat × AV) → List AO → Prop} {n0 : Nat} {c0 c : Cx} {T : List (Nat × AV)} {a : Act}
    (H : HR c) (hT : TR c T a.tmps) (E0 : ExtN n0 c0 c) (hd : a.defers = []) (hN : a.tmps.size = N) (h : aRegion P D c0.G N L T c.A Q)
    (hq : ∀ c' a' T', HR c' → TR c' T' a'.tmps → ExtN n0 c0 c' → a'.defers = [] → a'.tmps.size = N → Q T' c'.A → Qc .normal a' c'.w) : wpAny P .any L.toArray Qc L.length (Array.replicate L.length false) a c.w := by
  rcases h with h | h
  · exact aRegion1_sound hD H hT E0 hd hN h hq
  · exact aRegion2_sound hD H hT E0 hd hN h hq
end Go.Ab
/-
  Code: what must be so ahead of it.
-/
namespace Go.Ab
open Go
structure Env where
  P : Program
  D : Tab
  G : List (Nat × Value)
  N : Nat
  n0 : Nat
  cuts : List Nat
structure EnvOk (E : Env) : Prop where
  tab : TabOk E.P E.D
  mix : E.P.follows .mixedOrders = true
/-- one state may be seen as another one -/
def Ent (n0 : Nat) (σ σ' : St) : Prop := ∀ c : Cx, HR c → c.A = σ.A → n0 ≤ c.A.length → ∀ tmps, TR c σ.T tmps → ∃ c' : Cx, c'.w = c.w ∧ ExtN n0 c c' ∧ HR c' ∧ c'.A = σ'.A ∧ TR c' σ'.T tmps
theorem ExtN.refl {n : Nat} {c : Cx} (h : n ≤ c.A.length) : ExtN n c c := (Ext.refl c).toN' h
theorem Ent.refl (n0 : Nat) (σ : St) : Ent n0 σ σ := fun c H hA hn _ h => ⟨c, rfl, ExtN.refl hn, H, hA, h⟩
theorem Ent.trans {n0 : Nat} {σ σ' σ'' : St} (h : Ent n0 σ σ') (h' : Ent n0 σ' σ'') : Ent n0 σ σ'' := fun c H hA hn tmps ht => by
  obtain ⟨c1, k1, k2, k3, k4, k5⟩ := h c H hA hn tmps ht
  obtain ⟨c2, j1, j2, j3, j4, j5⟩ := h' c1 k3 k4 k2.le.len tmps k5
  exact ⟨c2, j1.trans k1, k2.trans j2, j3, j4, j5⟩
def subT (T : List (Nat × AV)) : List (Nat × AV) → Prop
  | [] => True
  | [(d, v)] => lk T d = v
  | (d, v) :: T' => lk T d = v ∧ subT T T'
theorem subT_lk {T : List (Nat × AV)} {c : Cx} {tmps : Array Value} (h : TR c T tmps) : ∀ T' : List (Nat × AV), subT T T' → TR c T' tmps
  | [], _, n => by show Rel c .unk _; exact rel_unk
  | [(d, v)], hs, n => by
    unfold lk
    by_cases hd : d = n
    · subst hd; rw [if_pos rfl]; have : lk T d = v := hs; rw [← this]; exact h d
    · rw [if_neg hd]; exact rel_unk
  | (d, v) :: x :: T', hs, n => by
    unfold lk
    by_cases hd : d = n
    · subst hd; rw [if_pos rfl]; have : lk T d = v := hs.1; rw [← this]; exact h d
    · rw [if_neg hd]; exact subT_lk h (x :: T') hs.2 n
theorem Ent.sub {n0 : Nat} {T T' : List (Nat × AV)} {A A' : List AO} (hA : A = A') (hT : subT T T') : Ent n0 ⟨T, A⟩ ⟨T', A'⟩ := fun c H h hn _ ht => by
  subst hA
  exact ⟨c, rfl, ExtN.refl hn, H, h, subT_lk ht T' hT⟩
/-- a nil slice as a slice of one's own -/
theorem Ent.nil {n0 : Nat} {T : List (Nat × AV)} {A : List AO} (d : Nat) (e : Ty) (h : lk T d = .nilSl) : Ent n0 ⟨T, A⟩ ⟨(d, .ref A.length 0 0) :: T, A ++ [.row e []]⟩ := fun c H hA hn tmps ht => by
  have hA : c.A = A := hA
  subst hA
  obtain ⟨k1, k2, _⟩ := nilRow_sound (p := none) H e
  refine ⟨c.nilRow e, rfl, k1.toN' hn, k2, rfl, fun n => ?_⟩
  show Rel _ (lk ((d, _) :: T) n) _
  unfold lk
  by_cases hd : d = n
  · subst hd
    rw [if_pos rfl]
    have := ht d
    rw [h] at this
    unfold Rel at this
    obtain ⟨p, this⟩ := this
    rw [this]; exact (nilRow_sound H e).2.2
  · rw [if_neg hd]; exact (ht n).ext k1
/-! ### code -/
def thenQ (next : St → Prop) (Q : Exit → St → Prop) : Exit → St → Prop
  | .normal, σ => next σ
  | e, σ => Q e σ
def blkQ (id : Nat) (Q : Exit → St → Prop) : Exit → St → Prop
  | .exit i, σ => match Nat.beq i id with
    | true => Q .normal σ
    | false => Q (.exit i) σ
  | e, σ => Q e σ
def ALoop (n0 : Nat) (body : (Exit → St → Prop) → St → Prop) (Q : Exit → St → Prop) (σ : St) : Prop :=
  ∃ (ι : Type) (S : ι → St) (I : ι → Prop) (μ : ι → Nat) (i0 : ι), I i0 ∧ Ent n0 σ (S i0) ∧ ∀ i, I i → body (thenQ (fun σ' => ∃ j, I j ∧ μ j < μ i ∧ Ent n0 σ' (S j)) Q) (S i)
def aReg (P : Program) (D : Tab) (G : List (Nat × Value)) (N : Nat) (L : List Oper) (draw : Bool) (T : List (Nat × AV)) (A : List AO) (Q : List (Nat × AV) → List AO → Prop) : Prop := match draw with
  | false => aOps P D G N L L T A Q
  | true => aRegion P D G N L T A Q
/-- is the state to be seen otherwise ahead of this region? -/
def cutB (q : Nat) : List Nat → Bool
  | [] => false
  | x :: l => match Nat.beq x q with
    | true => true
    | false => cutB q l
def awp (E : Env) : Code → (Exit → St → Prop) → St → Prop
  | .skip, Q, σ => Q .normal σ
  | .label _, Q, σ => Q .normal σ
  | .region id ⟨L⟩ draw, Q, ⟨T, A⟩ => match E with
    | ⟨P, D, G, N, n0, cuts⟩ => match cutB id cuts with
      | false => aReg P D G N L draw T A fun T A => Q .normal ⟨T, A⟩
      | true => ∃ T' A', Ent n0 ⟨T, A⟩ ⟨T', A'⟩ ∧ aReg P D G N L draw T' A' fun T A => Q .normal ⟨T, A⟩
  | .seq x y, Q, σ => awp E x (thenQ (awp E y Q) Q) σ
  | .cond c x y, Q, σ => match ev σ.T c with
    | .fz .bool b => (b = true → awp E x Q σ) ∧ (b = false → awp E y Q σ)
    | _ => False
  | .block id c, Q, σ => awp E c (blkQ id Q) σ
  | .loop c, Q, σ => ALoop E.n0 (awp E c) Q σ
  | .exit id, Q, σ => Q (.exit id) σ
  | .goto l, Q, σ => Q (.goto l) σ
  | .ret, Q, σ => Q .ret σ
  | _, _, _ => False
def Post (E : Env) (c0 : Cx) (Q : Exit → St → Prop) : Exit → Act → World → Prop := fun e a w => ∃ σ, Q e σ ∧ Sim E.n0 c0 E.N σ a w
theorem wp_region_list {P : Program} {id : Nat} {ops : Array Oper} {Q : Exit → Act → World → Prop} {a : Act} {w : World} (h : wpOps P ops.toList.toArray Q (List.range' 0 ops.toList.length) a w) : (Code.region id ops false).wp P Q a w := by
  refine wp_region ?_
  rw [List.range_eq_range']
  simpa using h
theorem sim_heap {E : Env} {c0 : Cx} {σ : St} {a : Act} {w w' : World} (h : Sim E.n0 c0 E.N σ a w) (hw : w'.heap = w.heap) (hs' : WSame w w') : Sim E.n0 c0 E.N σ a w' := by
  obtain ⟨c, rfl, h2, h3, h4, h5, h6, h7⟩ := h
  obtain ⟨k1, k2⟩ := ext_draw h3 w' hw hs'
  exact ⟨{ c with w := w' }, rfl, h2, k2, h4.ext k1, h5.step k1, h6, h7⟩
theorem awp_sound {E : Env} (ok : EnvOk E) (c0 : Cx) (hG : c0.G = E.G) : ∀ (c : Code) (Q : Exit → St → Prop) (σ : St) (a : Act) (w : World), awp E c Q σ → Sim E.n0 c0 E.N σ a w → c.wp E.P (Post E c0 Q) a w := by
  intro c
  induction c with
  | skip => intro Q σ a w h hs; exact wp_skip ⟨σ, h, hs⟩
  | label l => intro Q σ a w h hs; exact wp_label ⟨σ, h, hs⟩
  | exit id => intro Q σ a w h hs; exact wp_exit ⟨σ, h, hs⟩
  | goto l => intro Q σ a w h hs; exact wp_goto ⟨σ, h, hs⟩
  | ret => intro Q σ a w h hs; exact wp_ret ⟨σ, h, hs⟩
  | refuse s => intro Q σ a w h hs; exact h.elim
  | scope c _ => intro Q σ a w h hs; exact h.elim
  | rangeFunc f ps x y _ _ => intro Q σ a w h hs; exact h.elim
  | region id ops draw =>
    intro Q σ a w h hs
    obtain ⟨L⟩ := ops
    obtain ⟨P, D, G, N, n0, cuts⟩ := E
    have main : ∀ (T : List (Nat × AV)) (A : List AO), aReg P D G N L draw T A (fun T A => Q .normal ⟨T, A⟩) → Sim n0 c0 N ⟨T, A⟩ a w → (Code.region id ⟨L⟩ draw).wp P (Post ⟨P, D, G, N, n0, cuts⟩ c0 Q) a w := by
      intro T A h hs
      cases draw with
      | false =>
        obtain ⟨c, rfl, hA, H, hT, hE, hd, hN⟩ := hs
        refine wp_region_list ?_
        have h : aOps P D G N L L T A (fun T A => Q .normal ⟨T, A⟩) := h
        have hA : c.A = A := hA
        have hG : c0.G = G := hG
        rw [← hA, ← hG] at h
        exact aOps_sound ok.tab L 0 T c a (fun j => by simp) H hT hE hd hN h fun c' a' T' H' hT' hE' hd' hN' hQ => ⟨⟨T', c'.A⟩, hQ, c', rfl, rfl, H', hT', hE', hd', hN'⟩
      | true =>
        refine wp_region_any ok.mix ?_
        obtain ⟨c, hw, hA, H, hT, hE, hd, hN⟩ := sim_heap (E := ⟨P, D, G, N, n0, cuts⟩) (w' := { w with drawn := w.drawn + 1 }) hs rfl ⟨rfl, rfl, rfl⟩
        rw [← hw]
        have h : aRegion P D G N L T A (fun T A => Q .normal ⟨T, A⟩) := h
        have hA : c.A = A := hA
        have hG : c0.G = G := hG
        rw [← hA, ← hG] at h
        have := aRegion_sound (Qc := Post ⟨P, D, G, N, n0, cuts⟩ c0 Q) ok.tab H hT hE hd hN h fun c' a' T' H' hT' hE' hd' hN' hQ => ⟨⟨T', c'.A⟩, hQ, c', rfl, rfl, H', hT', hE', hd', hN'⟩
        simpa using this
    obtain ⟨T, A⟩ := σ
    unfold awp at h
    simp only at h
    split at h
    · exact main T A h hs
    · obtain ⟨T', A', he, h⟩ := h
      refine main T' A' h ?_
      obtain ⟨cx, hw, hA, H, hT, hE, hd, hN⟩ := hs
      obtain ⟨c', k1, k2, k3, k4, k5⟩ := he cx H hA hE.le.len _ hT
      exact ⟨c', k1.trans hw, k4, k3, k5, hE.trans k2, hd, hN⟩
  | seq x y ihx ihy =>
    intro Q σ a w h hs
    refine wp_seq (wp_mono (ihx _ σ a w h hs) fun e a' w' ⟨σ', hq, hs'⟩ => ?_)
    cases e with
    | normal => exact ihy Q σ' a' w' hq hs'
    | _ => exact ⟨σ', hq, hs'⟩
  | cond c x y ihx ihy =>
    intro Q σ a w h hs
    unfold awp at h
    split at h
    · rename_i b hb
      obtain ⟨cx, rfl, hA, H, hT, hE, hd, hN⟩ := hs
      have hv := hT.ev (a := a) c
      rw [hb] at hv
      refine wp_cond_split (rel_bool.1 hv) (fun ht => ihx Q σ a _ (h.1 ht) ⟨cx, rfl, hA, H, hT, hE, hd, hN⟩) (fun hf => ihy Q σ a _ (h.2 hf) ⟨cx, rfl, hA, H, hT, hE, hd, hN⟩)
    · exact h.elim
  | block id c ih =>
    intro Q σ a w h hs
    refine wp_block (wp_mono (ih _ σ a w h hs) fun e a' w' ⟨σ', hq, hs'⟩ => ?_)
    cases e with
    | exit i =>
      show if i = id then _ else _
      have hq : (match Nat.beq i id with | true => Q .normal σ' | false => Q (.exit i) σ') := hq
      by_cases hi : i = id
      · rw [if_pos hi]
        have : Nat.beq i id = true := by rw [hi]; simp
        rw [this] at hq; exact ⟨σ', hq, hs'⟩
      · rw [if_neg hi]
        have : Nat.beq i id = false := by
          cases hb : Nat.beq i id with
          | false => rfl
          | true => exact absurd (beq_eq hb) hi
        rw [this] at hq; exact ⟨σ', hq, hs'⟩
    | _ => exact ⟨σ', hq, hs'⟩
  | loop c ih =>
    intro Q σ a w h hs
    obtain ⟨ι, S, I, μ, i0, h0, he, hround⟩ := h
    have ent : ∀ {σ σ' : St} {a : Act} {w : World}, Ent E.n0 σ σ' → Sim E.n0 c0 E.N σ a w → Sim E.n0 c0 E.N σ' a w := by
      intro σ σ' a w he ⟨cx, hw, hA, H, hT, hE, hd, hN⟩
      obtain ⟨c', k1, k2, k3, k4, k5⟩ := he cx H hA hE.le.len _ hT
      exact ⟨c', k1.trans hw, k4, k3, k5, hE.trans k2, hd, hN⟩
    -- the measure of a state: the least of those that it may be
    let M : Act → World → Nat := fun a w => Classical.epsilon fun n => (∃ i, I i ∧ Sim E.n0 c0 E.N (S i) a w ∧ μ i = n) ∧ ∀ i, I i → Sim E.n0 c0 E.N (S i) a w → n ≤ μ i
    have hM : ∀ a w, (∃ i, I i ∧ Sim E.n0 c0 E.N (S i) a w) → (∃ i, I i ∧ Sim E.n0 c0 E.N (S i) a w ∧ μ i = M a w) ∧ ∀ i, I i → Sim E.n0 c0 E.N (S i) a w → M a w ≤ μ i := by
      intro a w ⟨i, hi, hsi⟩
      have : ∃ n, (∃ i, I i ∧ Sim E.n0 c0 E.N (S i) a w ∧ μ i = n) ∧ ∀ i, I i → Sim E.n0 c0 E.N (S i) a w → n ≤ μ i := by
        obtain ⟨m, ⟨j, j1, j2, j3⟩, hm⟩ := least_of (p := fun n => ∃ i, I i ∧ Sim E.n0 c0 E.N (S i) a w ∧ μ i = n) (μ i) ⟨i, hi, hsi, rfl⟩
        refine ⟨m, ⟨j, j1, j2, j3⟩, fun i' hi' hs' => ?_⟩
        rcases Nat.lt_or_ge (μ i') m with h | h
        · exact absurd ⟨i', hi', hs', rfl⟩ (hm _ h)
        · exact h
      exact Classical.epsilon_spec this
    refine wp_loop (fun a w => ∃ i, I i ∧ Sim E.n0 c0 E.N (S i) a w) M ⟨i0, h0, ent he hs⟩ fun a w hI => ?_
    obtain ⟨⟨i, hi, hsi, hμ⟩, _⟩ := hM a w hI
    refine wp_mono (ih _ (S i) a w (hround i hi) hsi) fun e a' w' ⟨σ', hq, hs'⟩ => ?_
    cases e with
    | normal =>
      obtain ⟨j, hj, hlt, hej⟩ := hq
      have hsj := ent hej hs'
      refine ⟨⟨j, hj, hsj⟩, ?_⟩
      have := (hM a' w' ⟨j, hj, hsj⟩).2 j hj hsj
      omega
    | _ => exact ⟨σ', hq, hs'⟩
end Go.Ab
/-
  What holds of code holds of code within a round of a range over a function (no defer in it).
-/
namespace Go.Ab
open Go
/-- the wide fence, in a round or in none -/
def FR (r : Option Nat) : Fence := { Fence.wide with round := r }
theorem calls_in {r : Option Nat} {n : Nat} {P : Program} {f : FuncId} {args : Array Value} {w : World} {R : Ending → World → Prop} (h : Calls P f args w R) : CallsIn (FR r) n P f args w R :=
  ⟨trivial, (callsIn_wide (n := n) |>.2 h).2⟩
theorem rows_in {r : Option Nat} {n : Nat} {P : Program} {row : String} {args : Array Value} {w : World} {R : Value → World → Prop} (h : Rows P row args w R) : RowsIn (FR r) n P row args w R :=
  fun c cs _ => let ⟨v, w', q, s⟩ := h c cs; ⟨v, w', q, stepsIn_wide.2 s⟩
def noDef (o : Oper) : Bool := match o.op with
  | .defer _ => false
  | _ => true
theorem noDef_ne {o : Oper} (h : noDef o = true) : ∀ c, o.op ≠ .defer c := fun c e => by unfold noDef at h; rw [e] at h; cases h
theorem op_in {r : Option Nat} {n : Nat} {P : Program} {o : Oper} {a : Act} {w : World} {K : Act → World → Prop} {Q : Exit → Act → World → Prop} (hd : noDef o = true) (h : o.wp P a w K Q) : o.wpIn (FR r) n P a w K Q := by
  unfold Oper.wp at h
  unfold Oper.wpIn
  refine ⟨fun _ _ => trivial, ?_⟩
  rw [show (FR r).round = r from rfl, Oper.semAt_eq r _ _ (noDef_ne hd)]
  generalize (execOp a.eval o).run P w = x at *
  cases x with
  | ok nx w' =>
    cases nx <;> simp only [Oper.upon, Oper.uponIn] at h ⊢ <;> first | exact h | exact ⟨(fun hh => by cases hh), calls_in h⟩ | exact ⟨(fun hh => by cases hh), rows_in h⟩
  | halt x w' => cases x <;> simp only [Oper.upon, Oper.uponIn] at h ⊢ <;> exact h
theorem wpOp_in {r : Option Nat} {n : Nat} {P : Program} {ops : Array Oper} {Q : Exit → Act → World → Prop} {i : Nat} {K K' : Act → World → Prop} {a : Act} {w : World} (hd : ∀ o, ops[i]? = some o → noDef o = true) (hQ : ¬ LetsOut Q) (hK : ∀ a w, K a w → K' a w) (h : wpOp P ops Q i K a w) : wpOpIn (FR r) n P ops Q i K' a w := by
  unfold wpOp at h
  unfold wpOpIn
  cases ho : ops[i]? with
  | none => rw [ho] at h; exact hK _ _ h
  | some o =>
    rw [ho] at h
    simp only at h ⊢
    by_cases hw : Region.wanted o (yielded ops a.tmps) = true
    · rw [if_pos hw] at h ⊢
      rcases h with h | ⟨_, h⟩
      · exact op_in (hd o ho) (Oper.wp_mono hK h)
      · exact absurd h hQ
    · rw [if_neg hw] at h ⊢
      exact ⟨fun _ _ => trivial, hK _ _ h⟩
theorem wpOps_in {r : Option Nat} {n : Nat} {P : Program} {ops : Array Oper} {Q : Exit → Act → World → Prop} (hd : ∀ (i : Nat) (o : Oper), ops[i]? = some o → noDef o = true) (hQ : ¬ LetsOut Q) : ∀ (l : List Nat) (a : Act) (w : World), wpOps P ops Q l a w → wpOpsIn (FR r) n P ops Q l a w
  | [], _, _, h => h
  | i :: rest, a, w, h => by
    rw [wpOps_cons] at h
    rw [wpOpsIn_cons]
    exact wpOp_in (hd i) hQ (fun a w h => wpOps_in hd hQ rest a w h) h
theorem wpAny_in {r : Option Nat} {n : Nat} {P : Program} {md : Region.Mode} {ops : Array Oper} {Q : Exit → Act → World → Prop} (hd : ∀ (i : Nat) (o : Oper), ops[i]? = some o → noDef o = true) (hQ : ¬ LetsOut Q) : ∀ (fuel : Nat) (listed : Array Bool) (a : Act) (w : World), wpAny P md ops Q fuel listed a w → wpAnyIn (FR r) n P md ops Q fuel listed a w
  | 0, _, _, _, h => h
  | fuel + 1, _, _, _, h => ⟨h.1, fun i hi => wpOp_in (hd i) hQ (fun a w h => wpAny_in hd hQ fuel _ a w h) (h.2 i hi)⟩
/-- no deferred call stands in this code -/
def ndC : Code → Bool
  | .region _ ⟨L⟩ _ => L.all noDef
  | .seq x y => ndC x && ndC y
  | .cond _ x y => ndC x && ndC y
  | .block _ c => ndC c
  | .loop c => ndC c
  | _ => true
/-- how a region is left: ahead -/
def onlyN (Q : Exit → Act → World → Prop) : Exit → Act → World → Prop
  | .normal, a, w => Q .normal a w
  | _, _, _ => False
theorem onlyN_out (Q : Exit → Act → World → Prop) : ¬ LetsOut (onlyN Q) := fun ⟨_, _, h⟩ => h
theorem onlyN_to {Q : Exit → Act → World → Prop} : ∀ e a w, onlyN Q e a w → Q e a w
  | .normal, _, _, h => h
theorem awp_sound_in {E : Env} (ok : EnvOk E) (r : Option Nat) (n : Nat) (c0 : Cx) (hG : c0.G = E.G) : ∀ (c : Code), ndC c = true → ∀ (Q : Exit → St → Prop) (σ : St) (a : Act) (w : World), awp E c Q σ → Sim E.n0 c0 E.N σ a w → c.wpIn (FR r) n E.P (Post E c0 Q) a w := by
  intro c
  induction c with
  | skip => intro _ Q σ a w h hs; exact wpIn_skip ⟨σ, h, hs⟩
  | label l => intro _ Q σ a w h hs; exact wpIn_label ⟨σ, h, hs⟩
  | exit id => intro _ Q σ a w h hs; exact wpIn_exit ⟨σ, h, hs⟩
  | goto l => intro _ Q σ a w h hs; exact wpIn_goto ⟨σ, h, hs⟩
  | ret => intro _ Q σ a w h hs; exact wpIn_ret ⟨σ, h, hs⟩
  | refuse s => intro _ Q σ a w h hs; exact h.elim
  | scope c _ => intro _ Q σ a w h hs; exact h.elim
  | rangeFunc f ps x y _ _ => intro _ Q σ a w h hs; exact h.elim
  | region id ops draw =>
    intro hnd Q σ a w h hs
    obtain ⟨L⟩ := ops
    have hnd : L.all noDef = true := hnd
    have hd : ∀ i o, (⟨L⟩ : Array Oper)[i]? = some o → noDef o = true := fun i o ho => List.all_eq_true.1 hnd o (by
      have := Array.mem_of_getElem? ho
      simpa using this)
    obtain ⟨P, D, G, N, n0, cuts⟩ := E
    have main : ∀ (T : List (Nat × AV)) (A : List AO), aReg P D G N L draw T A (fun T A => Q .normal ⟨T, A⟩) → Sim n0 c0 N ⟨T, A⟩ a w → (Code.region id ⟨L⟩ draw).wpIn (FR r) n P (Post ⟨P, D, G, N, n0, cuts⟩ c0 Q) a w := by
      intro T A h hs
      refine wpIn_mono ?_ (onlyN_to (Q := Post ⟨P, D, G, N, n0, cuts⟩ c0 Q))
      cases draw with
      | false =>
        obtain ⟨c, rfl, hA, H, hT, hE, hd', hN⟩ := hs
        have h : aOps P D G N L L T A (fun T A => Q .normal ⟨T, A⟩) := h
        have hA : c.A = A := hA
        have hG : c0.G = G := hG
        rw [← hA, ← hG] at h
        have := aOps_sound (Qc := onlyN (Post ⟨P, D, G, N, n0, cuts⟩ c0 Q)) ok.tab L 0 T c a (fun j => by simp) H hT hE hd' hN h fun c' a' T' H' hT' hE' hd' hN' hQ => ⟨⟨T', c'.A⟩, hQ, c', rfl, rfl, H', hT', hE', hd', hN'⟩
        refine wpIn_region (wpOps_in hd (onlyN_out _) _ _ _ ?_)
        rw [List.range_eq_range']
        simpa using this
      | true =>
        refine wpIn_region_any ok.mix (wpAny_in hd (onlyN_out _) _ _ _ _ ?_)
        obtain ⟨c, hw, hA, H, hT, hE, hd', hN⟩ := sim_heap (E := ⟨P, D, G, N, n0, cuts⟩) (w' := { w with drawn := w.drawn + 1 }) hs rfl ⟨rfl, rfl, rfl⟩
        rw [← hw]
        have h : aRegion P D G N L T A (fun T A => Q .normal ⟨T, A⟩) := h
        have hA : c.A = A := hA
        have hG : c0.G = G := hG
        rw [← hA, ← hG] at h
        have := aRegion_sound (Qc := onlyN (Post ⟨P, D, G, N, n0, cuts⟩ c0 Q)) ok.tab H hT hE hd' hN h fun c' a' T' H' hT' hE' hd' hN' hQ => ⟨⟨T', c'.A⟩, hQ, c', rfl, rfl, H', hT', hE', hd', hN'⟩
        simpa using this
    obtain ⟨T, A⟩ := σ
    unfold awp at h
    simp only at h
    split at h
    · exact main T A h hs
    · obtain ⟨T', A', he, h⟩ := h
      refine main T' A' h ?_
      obtain ⟨cx, hw, hA, H, hT, hE, hd, hN⟩ := hs
      obtain ⟨c', k1, k2, k3, k4, k5⟩ := he cx H hA hE.le.len _ hT
      exact ⟨c', k1.trans hw, k4, k3, k5, hE.trans k2, hd, hN⟩
  | seq x y ihx ihy =>
    intro hnd Q σ a w h hs
    unfold ndC at hnd
    simp only [Bool.and_eq_true] at hnd
    refine wpIn_seq (wpIn_mono (ihx hnd.1 _ σ a w h hs) fun e a' w' ⟨σ', hq, hs'⟩ => ?_)
    cases e with
    | normal => exact ihy hnd.2 Q σ' a' w' hq hs'
    | _ => exact ⟨σ', hq, hs'⟩
  | cond c x y ihx ihy =>
    intro hnd Q σ a w h hs
    unfold ndC at hnd
    simp only [Bool.and_eq_true] at hnd
    unfold awp at h
    split at h
    · rename_i b hb
      obtain ⟨cx, rfl, hA, H, hT, hE, hd, hN⟩ := hs
      have hv := hT.ev (a := a) c
      rw [hb] at hv
      refine wpIn_cond_split (rel_bool.1 hv) (fun ht => ihx hnd.1 Q σ a _ (h.1 ht) ⟨cx, rfl, hA, H, hT, hE, hd, hN⟩) (fun hf => ihy hnd.2 Q σ a _ (h.2 hf) ⟨cx, rfl, hA, H, hT, hE, hd, hN⟩)
    · exact h.elim
  | block id c ih =>
    intro hnd Q σ a w h hs
    refine wpIn_block (wpIn_mono (ih hnd _ σ a w h hs) fun e a' w' ⟨σ', hq, hs'⟩ => ?_)
    cases e with
    | exit i =>
      show if i = id then _ else _
      have hq : (match Nat.beq i id with | true => Q .normal σ' | false => Q (.exit i) σ') := hq
      by_cases hi : i = id
      · rw [if_pos hi]
        have : Nat.beq i id = true := by rw [hi]; simp
        rw [this] at hq; exact ⟨σ', hq, hs'⟩
      · rw [if_neg hi]
        have : Nat.beq i id = false := by
          cases hb : Nat.beq i id with
          | false => rfl
          | true => exact absurd (beq_eq hb) hi
        rw [this] at hq; exact ⟨σ', hq, hs'⟩
    | _ => exact ⟨σ', hq, hs'⟩
  | loop c ih =>
    intro hnd Q σ a w h hs
    obtain ⟨ι, S, I, μ, i0, h0, he, hround⟩ := h
    have ent : ∀ {σ σ' : St} {a : Act} {w : World}, Ent E.n0 σ σ' → Sim E.n0 c0 E.N σ a w → Sim E.n0 c0 E.N σ' a w := by
      intro σ σ' a w he ⟨cx, hw, hA, H, hT, hE, hd, hN⟩
      obtain ⟨c', k1, k2, k3, k4, k5⟩ := he cx H hA hE.le.len _ hT
      exact ⟨c', k1.trans hw, k4, k3, k5, hE.trans k2, hd, hN⟩
    let M : Act → World → Nat := fun a w => Classical.epsilon fun n => (∃ i, I i ∧ Sim E.n0 c0 E.N (S i) a w ∧ μ i = n) ∧ ∀ i, I i → Sim E.n0 c0 E.N (S i) a w → n ≤ μ i
    have hM : ∀ a w, (∃ i, I i ∧ Sim E.n0 c0 E.N (S i) a w) → (∃ i, I i ∧ Sim E.n0 c0 E.N (S i) a w ∧ μ i = M a w) ∧ ∀ i, I i → Sim E.n0 c0 E.N (S i) a w → M a w ≤ μ i := by
      intro a w ⟨i, hi, hsi⟩
      have : ∃ n, (∃ i, I i ∧ Sim E.n0 c0 E.N (S i) a w ∧ μ i = n) ∧ ∀ i, I i → Sim E.n0 c0 E.N (S i) a w → n ≤ μ i := by
        obtain ⟨m, ⟨j, j1, j2, j3⟩, hm⟩ := least_of (p := fun n => ∃ i, I i ∧ Sim E.n0 c0 E.N (S i) a w ∧ μ i = n) (μ i) ⟨i, hi, hsi, rfl⟩
        refine ⟨m, ⟨j, j1, j2, j3⟩, fun i' hi' hs' => ?_⟩
        rcases Nat.lt_or_ge (μ i') m with h | h
        · exact absurd ⟨i', hi', hs', rfl⟩ (hm _ h)
        · exact h
      exact Classical.epsilon_spec this
    refine wpIn_loop (fun a w => ∃ i, I i ∧ Sim E.n0 c0 E.N (S i) a w) M ⟨i0, h0, ent he hs⟩ fun a w hI => ?_
    obtain ⟨⟨i, hi, hsi, hμ⟩, _⟩ := hM a w hI
    refine wpIn_mono (ih hnd _ (S i) a w (hround i hi) hsi) fun e a' w' ⟨σ', hq, hs'⟩ => ?_
    cases e with
    | normal =>
      obtain ⟨j, hj, hlt, hej⟩ := hq
      have hsj := ent hej hs'
      refine ⟨⟨j, hj, hsj⟩, ?_⟩
      have := (hM a' w' ⟨j, hj, hsj⟩).2 j hj hsj
      omega
    | _ => exact ⟨σ', hq, hs'⟩
end Go.Ab
/-
  Code that has marks beside it (behind a range over a function): loads and assignments alone.
-/
namespace Go.Ab
open Go
def wd (a : Act) (ds : List Deferred) : Act := { a with defers := ds }
theorem wd_put (a : Act) (ds : List Deferred) (d : Option Tmp) (v : Value) : (wd a ds).put d v = wd (a.put d v) ds := by cases d <;> rfl
theorem wd_eval (a : Act) (ds : List Deferred) : (wd a ds).eval = a.eval := by funext o; cases o <;> rfl
def calmO (o : Oper) : Bool := match o.op with
  | .move _ => true
  | .assign _ => true
  | .load _ _ => true
  | .fieldAddr _ _ _ => true
  | _ => false
theorem calm_run {o : Oper} (h : calmO o = true) (ρ : Operand → Value) : ∃ s : Sem Value, execOp ρ o = (do pure (.value (← s))) ∧ noDef o = true := by
  unfold calmO at h
  unfold execOp noDef
  cases ho : o.op <;> rw [ho] at h <;> first | cases h | skip
  case move x => exact ⟨pure (ρ x), by simp, rfl⟩
  case assign x => exact ⟨pure (ρ x), by simp, rfl⟩
  case load t x => exact ⟨_, rfl, rfl⟩
  case fieldAddr s x f => exact ⟨_, rfl, rfl⟩
theorem op_ds {n : Nat} {P : Program} {o : Oper} {a : Act} {w : World} {ds : List Deferred} {K K' : Act → World → Prop} {Q Q' : Exit → Act → World → Prop} (hd : calmO o = true) (hK : ∀ a w, K a w → K' (wd a ds) w) (hQ : ∀ e a w, ¬ e = .normal → ¬ Q e a w) (h : o.wp P a w K Q) : o.wpIn (FR none) n P (wd a ds) w K' Q' := by
  obtain ⟨s, hs, hnd⟩ := calm_run hd a.eval
  unfold Oper.wp at h
  unfold Oper.wpIn
  refine ⟨fun _ _ => trivial, ?_⟩
  rw [show (FR none).round = none from rfl, Oper.semAt_eq none _ _ (noDef_ne hnd), wd_eval, hs]
  rw [hs] at h
  simp only [Sem.run_bind, Sem.run_pure] at h ⊢
  cases hx : s.run P w with
  | ok v w' =>
    rw [hx] at h
    simp only [Result.andThen_ok, Oper.upon, Oper.uponIn] at h ⊢
    rw [wd_put]; exact hK _ _ h
  | halt x w' =>
    rw [hx] at h
    cases x <;> simp only [Result.andThen, Oper.upon, Oper.uponIn] at h ⊢
    exact absurd h (hQ _ _ _ (by simp))
theorem wpOps_ds {n : Nat} {P : Program} {ops : Array Oper} {Q Q' : Exit → Act → World → Prop} {ds : List Deferred} (hd : ∀ (i : Nat) (o : Oper), ops[i]? = some o → calmO o = true) (hQ : ∀ e a w, ¬ e = .normal → ¬ Q e a w) (hN : ∀ a w, Q .normal a w → Q' .normal (wd a ds) w) : ∀ (l : List Nat) (a : Act) (w : World), wpOps P ops Q l a w → wpOpsIn (FR none) n P ops Q' l (wd a ds) w
  | [], _, _, h => hN _ _ h
  | i :: rest, a, w, h => by
    rw [wpOps_cons] at h
    rw [wpOpsIn_cons]
    unfold wpOp at h
    unfold wpOpIn
    cases ho : ops[i]? with
    | none => rw [ho] at h; exact wpOps_ds hd hQ hN rest _ _ h
    | some o =>
      rw [ho] at h
      simp only at h ⊢
      by_cases hw : Region.wanted o (yielded ops a.tmps) = true
      · rw [if_pos hw] at h
        rw [if_pos (show Region.wanted o (yielded ops (wd a ds).tmps) = true from hw)]
        rcases h with h | ⟨_, a', w', h⟩
        · exact op_ds (hd i o ho) (fun a w h => wpOps_ds hd hQ hN rest a w h) hQ h
        · exact absurd h (hQ _ _ _ (by simp))
      · rw [if_neg hw] at h
        rw [if_neg (show ¬ Region.wanted o (yielded ops (wd a ds).tmps) = true from hw), wd_put]
        exact ⟨fun _ _ => trivial, wpOps_ds hd hQ hN rest _ _ h⟩
def calmC : Code → Bool
  | .skip => true
  | .ret => true
  | .region _ ⟨L⟩ false => L.all calmO
  | .seq x y => calmC x && calmC y
  | _ => false
def PostD (E : Env) (c0 : Cx) (Q : Exit → St → Prop) (ds : List Deferred) : Exit → Act → World → Prop := fun e a w => ∃ a0, a = wd a0 ds ∧ Post E c0 Q e a0 w
theorem awp_sound_ds {E : Env} (ok : EnvOk E) (ds : List Deferred) (n : Nat) (c0 : Cx) (hG : c0.G = E.G) : ∀ (c : Code), calmC c = true → ∀ (Q : Exit → St → Prop) (σ : St) (a : Act) (w : World), awp E c Q σ → Sim E.n0 c0 E.N σ a w → c.wpIn (FR none) n E.P (PostD E c0 Q ds) (wd a ds) w := by
  intro c
  induction c with
  | skip => intro _ Q σ a w h hs; exact wpIn_skip ⟨a, rfl, σ, h, hs⟩
  | ret => intro _ Q σ a w h hs; exact wpIn_ret ⟨a, rfl, σ, h, hs⟩
  | seq x y ihx ihy =>
    intro hnd Q σ a w h hs
    unfold calmC at hnd
    simp only [Bool.and_eq_true] at hnd
    refine wpIn_seq (wpIn_mono (ihx hnd.1 _ σ a w h hs) fun e a' w' ⟨a0, ha, σ', hq, hs'⟩ => ?_)
    cases e with
    | normal => subst ha; exact ihy hnd.2 Q σ' a0 w' hq hs'
    | _ => exact ⟨a0, ha, σ', hq, hs'⟩
  | region id ops draw =>
    intro hnd Q σ a w h hs
    obtain ⟨L⟩ := ops
    cases draw with
    | true => cases hnd
    | false =>
      have hnd : L.all calmO = true := hnd
      have hd : ∀ (i : Nat) (o : Oper), (⟨L⟩ : Array Oper)[i]? = some o → calmO o = true := fun i o ho => List.all_eq_true.1 hnd o (by
        have := Array.mem_of_getElem? ho
        simpa using this)
      obtain ⟨P, D, G, N, n0, cuts⟩ := E
      have main : ∀ (T : List (Nat × AV)) (A : List AO), aReg P D G N L false T A (fun T A => Q .normal ⟨T, A⟩) → Sim n0 c0 N ⟨T, A⟩ a w → (Code.region id ⟨L⟩ false).wpIn (FR none) n P (PostD ⟨P, D, G, N, n0, cuts⟩ c0 Q ds) (wd a ds) w := by
        intro T A h hs
        obtain ⟨c, rfl, hA, H, hT, hE, hd', hN⟩ := hs
        have h : aOps P D G N L L T A (fun T A => Q .normal ⟨T, A⟩) := h
        have hA : c.A = A := hA
        have hG : c0.G = G := hG
        rw [← hA, ← hG] at h
        have := aOps_sound (Qc := onlyN (Post ⟨P, D, G, N, n0, cuts⟩ c0 Q)) ok.tab L 0 T c a (fun j => by simp) H hT hE hd' hN h fun c' a' T' H' hT' hE' hd' hN' hQ => ⟨⟨T', c'.A⟩, hQ, c', rfl, rfl, H', hT', hE', hd', hN'⟩
        refine wpIn_region (wpOps_ds (Q := onlyN (Post ⟨P, D, G, N, n0, cuts⟩ c0 Q)) hd (fun e a w he hq => by cases e <;> first | exact he rfl | exact hq) (fun a w h => ⟨a, rfl, h⟩) _ _ _ ?_)
        rw [List.range_eq_range']
        simpa using this
      obtain ⟨T, A⟩ := σ
      unfold awp at h
      simp only at h
      split at h
      · exact main T A h hs
      · obtain ⟨T', A', he, h⟩ := h
        refine main T' A' h ?_
        obtain ⟨cx, hw, hA, H, hT, hE, hd, hN⟩ := hs
        obtain ⟨c', k1, k2, k3, k4, k5⟩ := he cx H hA hE.le.len _ hT
        exact ⟨c', k1.trans hw, k4, k3, k5, hE.trans k2, hd, hN⟩
  | _ => intro hnd; cases hnd
end Go.Ab
/-
  A range over slices.Backward of ints.
-/
namespace Go.Ab
open Go Go.RowKit Go.Shelf
/-! ### blocks that are another's, turned or added -/
structure Turn (c c' : Cx) : Prop where
  A : c'.A = c.A
  ρ : c'.ρ = c.ρ
  G : c'.G = c.G
  I : ∀ b, c.I b → b < c.w.heap.size → c'.I b ∧ c'.w.heap[b]? = c.w.heap[b]?
  tok : ∀ t b, c.live t → c.ρ t = some b → ¬ c'.X b ∧ c'.w.heap[b]? = c.w.heap[b]?
  old : ∀ b, c'.X b → b < c'.w.heap.size
theorem Turn.le {c c' : Cx} (h : Turn c c') : Le c.A.length c c' := by
  refine ⟨h.I, fun t ht => ?_, by rw [h.A]; exact Nat.le_refl _⟩
  unfold TokLe
  rw [h.A, List.getElem?_eq_getElem ht]
  cases hA : c.A[t] with
  | row e xs =>
    refine .inl ⟨⟨xs, rfl⟩, by rw [h.ρ], fun b cs et hb hh => ⟨cs, ?_, rfl⟩⟩
    have := (h.tok t b ⟨_, (List.getElem?_eq_getElem ht).trans (congrArg some hA), rfl⟩ hb).2
    rw [this]; exact hh
  | box vs => exact .inl ⟨⟨vs, rfl⟩, by rw [h.ρ]⟩
  | mapo i vs => exact .inl ⟨⟨i, vs, rfl, rfl⟩, by rw [h.ρ]⟩
  | dead => trivial
  | room => rfl
theorem Turn.hr {c c' : Cx} (h : Turn c c') (H : HR c) : HR c' := by
  have lv : ∀ t, c'.live t → c.live t := fun t ⟨o, h1, h2⟩ => ⟨o, by rw [← h.A]; exact h1, h2⟩
  refine ⟨fun t b hl hb => (h.tok t b (lv t hl) (by rw [← h.ρ]; exact hb)).1, fun t u b h1 h2 h3 h4 => H.inj t u b (lv t h1) (lv u h2) (by rw [← h.ρ]; exact h3) (by rw [← h.ρ]; exact h4), fun t o ho => ?_, h.old, fun g v hg => (H.glo g v (by rw [← h.G]; exact hg)).mono h.I⟩
  have ho' : c.A[t]? = some o := by rw [← h.A]; exact ho
  have := H.obj t o ho'
  rw [h.ρ]
  cases o with
  | dead => trivial
  | room => trivial
  | row e xs =>
    rcases this with h1 | ⟨b, cs, et, h1, h2, h3⟩
    · exact .inl h1
    · refine .inr ⟨b, cs, et, h1, by rw [(h.tok t b ⟨_, ho', rfl⟩ h1).2]; exact h2, fun i hi => ?_⟩
      obtain ⟨ds, k1, k2⟩ := h3 i hi
      exact ⟨ds, k1.mono h.I, k2⟩
  | box vs =>
    obtain ⟨b, cs, et, h1, h2, h3⟩ := this
    exact ⟨b, cs, et, h1, by rw [(h.tok t b ⟨_, ho', rfl⟩ h1).2]; exact h2, RelL.mono h.le _ _ h3.ok h3⟩
  | mapo i vs =>
    obtain ⟨b, ob, us, h1, h2, h4, h3⟩ := this
    exact ⟨b, ob, us, h1, by rw [(h.tok t b ⟨_, ho', rfl⟩ h1).2]; exact h2, h4, RelL.mono h.le _ _ h3.ok h3⟩
theorem TR.le {c c' : Cx} (H : Le c.A.length c c') {T : List (Nat × AV)} {t : Array Value} (h : TR c T t) : TR c' T t := fun n => Rel.mono H _ _ (h n).ok (h n)
/-- a block of another's is written -/
theorem turn_put {c : Cx} (H : HR c) {r : Nat} (hr : c.X r) (o : Obj) : Turn c { c with w := c.w.putObj r o } where
  A := rfl
  ρ := rfl
  G := rfl
  I := fun _b h _ => ⟨h, World.putObj_heap_other (fun e => h.1 (e ▸ hr))⟩
  tok := fun t b hl hb => ⟨H.far t b hl hb, World.putObj_heap_other (fun e => H.far t b hl hb (e ▸ hr))⟩
  old := fun b hb => by
    have := H.old b hb
    show b < (c.w.putObj r o).heap.size
    simpa using this
theorem same_put (w : World) (r : Nat) (o : Obj) : WSame w (w.putObj r o) := ⟨rfl, rfl, rfl⟩
/-- what lies between the context that a function began in and the one behind its loop -/
structure Mid (n0 : Nat) (c0 c1 : Cx) (D : Nat) : Prop where
  le : Le n0 c0 c1
  G : c1.G = c0.G
  X : ∀ b, c0.X b → c1.X b
  XD : c1.X D
  dfr : c1.w.heap[D]? = some (.deferred (some []))
  notX : ¬ c0.X D
  notI : ∀ b, c0.I b → b < c0.w.heap.size → b ≠ D
  far : ∀ b, c0.X b → c1.w.heap[b]? = c0.w.heap[b]?
  st : WSame c0.w c1.w
def BackOk (P : Program) (f : Nat) : Prop := ∀ (n l Bs len : Nat) (zs : List Int), 1 ≤ n → 0 < len → len * 8 ≤ 140737488351232 → ∀ (J : Nat → World → Prop),
  (∀ k W, J k W → ∃ b off cap, W.cell? ⟨Bs, 0, none⟩ = some (.slice (some ⟨b, off, none⟩) len cap) ∧ ∀ j, j < len → W.cell? ⟨b, off + j, none⟩ = some (.int .i64 (zs[j]?.getD 0))) →
  (∀ k j W, J k W → k + j + 1 = len → YieldAt Fence.wide (n - 1) P l #[.int .i64 (j : Int), .int .i64 (zs[j]?.getD 0)] W fun e W' => e = .returned (.bool true) ∧ J (k + 1) W') →
  ∀ W, J 0 W → CallsIn Fence.wide n P f #[.func (.yield l) #[] #[], .pointer (some ⟨Bs, 0, none⟩)] W fun e W' => (∃ v, e = .returned v) ∧ J len W'
def rndQ (n : Nat) (A' : List AO) : Exit → St → Prop
  | .normal, σ => ∃ _u : Unit, Ent n σ ⟨[], A'⟩
  | _, _ => False
theorem fz_ints {c : Cx} {l : List Int} {v : Value} (h0 : 0 < l.length) (h : Rel c (.fz (.list (.int .i64)) l) v) : ∃ b off cap, v = .slice (some ⟨b, off, none⟩) l.length cap ∧ ∀ j, j < l.length → c.w.cell? ⟨b, off + j, none⟩ = some (.int .i64 (l[j]?.getD 0)) := by
  obtain ⟨p, cap, rfl, hf⟩ := rel_list h
  unfold FzC at hf
  obtain ⟨p', cap', e, hle, hall⟩ := hf
  cases e
  obtain ⟨b, off, cs, hp, _, _, _, _⟩ := hall 0 h0
  subst hp
  refine ⟨b, off, cap, rfl, fun j hj => ?_⟩
  obtain ⟨b', off', cs, hp, _, _, hc, hcell⟩ := hall j hj
  cases hp
  unfold FzC at hc
  subst hc
  have := hcell 0 (by simp)
  have hs : Ty.size (.int .i64) = 1 := rfl
  rw [hs] at this
  simpa [hj] using this
end Go.Ab
/-
  A range over slices.Backward of ints: the rule.
-/
namespace Go.Ab
open Go Go.RowKit Go.Shelf
theorem le_trans {n m : Nat} {c c' c'' : Cx} (h : Le n c c') (h' : Le m c' c'') (hn : n ≤ m) : Le n c c'' := by
  refine ⟨fun b hI hb => ?_, fun t ht => (h.tok t ht).trans (h'.tok t (by omega)), by have := h'.len; omega⟩
  obtain ⟨k1, k2⟩ := h.I b hI hb
  obtain ⟨k3, k4⟩ := h'.I b k1 (heap_lt hb k2)
  exact ⟨k3, k4.trans k2⟩
theorem Le.lower {n m : Nat} {c c' : Cx} (h : Le n c c') (hm : m ≤ n) : Le m c c' := ⟨h.I, fun t ht => h.tok t (by omega), by have := h.len; omega⟩
theorem box_tok {c c' : Cx} {t : Nat} (h : TokLe c c' t) {vs vs' : List AV} (h1 : c.A[t]? = some (.box vs)) (h2 : c'.A[t]? = some (.box vs')) : c'.ρ t = c.ρ t := by
  unfold TokLe at h
  rw [h1, h2] at h
  rcases h with ⟨_, h⟩ | ⟨e, xs, h⟩ | h
  · first | exact h | exact h.symm
  · cases h
  · cases h
theorem rf_wp {E : Env} (ok : EnvOk E) {f : Nat} (hback : BackOk E.P f) (hent : ∀ args w, (callFunc f args).run E.P w = .ok (.enter f args) w) {g : Operand} {p0 p1 : Nat} {assign body : Code} (nda : ndC assign = true) (ndb : ndC body = true)
    {c0 : Cx} (hG : c0.G = E.G) {T : List (Nat × AV)} {A : List AO} {tok : Nat} {l : List Int} (hp0 : p0 < E.N) (hp1 : p1 < E.N)
    (hg : ev T g = .fn f [.ptr tok 0]) (h0 : 0 < l.length) (h8 : l.length * 8 ≤ 140737488351232)
    (S : Nat → List AO) (hS0 : S 0 = A) (hSt : ∀ k, k ≤ l.length → (S k)[tok]? = some (.box [.fz (.list (.int .i64)) l])) (hSl : ∀ k, k ≤ l.length → (S k).length = A.length)
    (hround : ∀ k j, k + j + 1 = l.length → awp ⟨E.P, E.D, E.G, E.N, A.length, E.cuts⟩ assign (thenQ (awp ⟨E.P, E.D, E.G, E.N, A.length, E.cuts⟩ body (rndQ A.length (S (k + 1)))) fun _ _ => False) ⟨(p1, .fz (.int .i64) (l[j]?.getD 0)) :: (p0, .fz (.int .i64) (j : Int)) :: T, S k⟩)
    {a : Act} {w : World} (hs : Sim E.n0 c0 E.N ⟨T, A⟩ a w) {QQ : Exit → Act → World → Prop}
    (hQQ : ∀ (D : Nat) (c1 : Cx), Mid E.n0 c0 c1 D → HR c1 → c1.A = S l.length → TR c1 T a.tmps → a.tmps.size = E.N → QQ .normal (wd a [{ target := .collected D, args := #[] }]) c1.w) :
    (Code.rangeFunc g #[p0, p1] assign body).wpIn (FR none) 2 E.P QQ a w := by
  obtain ⟨c, rfl, hA, H, hT, hE, hd, hN⟩ := hs
  have hA : c.A = A := hA
  have hT : TR c T a.tmps := hT
  have ok1 : EnvOk ⟨E.P, E.D, E.G, E.N, A.length, E.cuts⟩ := ⟨ok.tab, ok.mix⟩
  -- the iterator's value
  have hv := hT.ev (a := a) g
  rw [hg] at hv
  unfold Rel at hv
  obtain ⟨vs, hgv, hvs⟩ := hv
  unfold RelL at hvs
  obtain ⟨v, r, rfl, hv, hr⟩ := hvs
  unfold RelL at hr
  subst hr
  have hAt : c.A[tok]? = some (.box [.fz (.list (.int .i64)) l]) := by rw [hA, ← hS0]; exact hSt 0 (Nat.zero_le _)
  unfold Rel at hv
  rw [hAt] at hv
  obtain ⟨B, hB, rfl⟩ := hv
  have hgv : a.eval g = .func (.func f) #[] #[.pointer (some ⟨B, 0, none⟩)] := hgv
  refine wpIn_rangeFunc fun fn _ => ?_
  rw [show (FR none).round = none from rfl]
  obtain ⟨D, hD⟩ : ∃ D, D = c.w.heap.size := ⟨_, rfl⟩
  obtain ⟨rec, hrec⟩ : ∃ rec : LoopState → Loop, rec = fun st => { state := st, pending := none, fn, tmps := a.tmps, params := #[p0, p1], assign, body, defers := c.w.heap.size } := ⟨_, rfl⟩
  obtain ⟨W1, hW1⟩ : ∃ W1, (c.w.alloc (.deferred (some []))).alloc (.loop (rec .ready)) = W1 := ⟨_, rfl⟩
  have hsz : W1.heap.size = D + 2 := by rw [← hW1, World.size_alloc, World.size_alloc, hD]
  have hold : ∀ b, b < c.w.heap.size → W1.heap[b]? = c.w.heap[b]? := fun b hb => by
    rw [← hW1]; exact (heap_alloc_old _ _ (by rw [World.size_alloc]; omega)).trans (heap_alloc_old _ _ hb)
  have hL1 : W1.heap[D + 1]? = some (.loop (rec .ready)) := by
    rw [← hW1, hD]; have := World.alloc_heap_new (c.w.alloc (.deferred (some []))) (.loop (rec .ready)); rwa [World.size_alloc] at this
  have hD1 : W1.heap[D]? = some (.deferred (some [])) := by
    rw [← hW1, hD]; exact (heap_alloc_old _ _ (by rw [World.size_alloc]; omega)).trans (World.alloc_heap_new c.w _)
  let cD : Cx := { c with w := W1, X := fun b => c.X b ∨ b = D ∨ b = D + 1 }
  have tD : Turn c cD := by
    refine ⟨rfl, rfl, rfl, fun b hI hb => ⟨⟨fun hx => ?_, hI.2⟩, hold b hb⟩, fun t b hl hb => ?_, fun b hb => ?_⟩
    · rcases hx with hx | hx | hx
      · exact hI.1 hx
      · omega
      · omega
    · have hlt : b < c.w.heap.size := by
        obtain ⟨o, h1, h2⟩ := hl
        have := H.obj t o h1
        rw [hb] at this
        exact this.lt h2
      refine ⟨fun hx => ?_, hold b hlt⟩
      rcases hx with hx | hx | hx
      · exact H.far t b hl hb hx
      · omega
      · omega
    · show b < W1.heap.size
      rcases hb with hb | hb | hb
      · have := H.old b hb; omega
      · omega
      · omega
  have HD : HR cD := tD.hr H
  have TD : TR cD T a.tmps := hT.le tD.le
  have sD : WSame c.w W1 := by rw [← hW1]; exact ⟨rfl, rfl, rfl⟩
  have hlen : cD.A.length = A.length := congrArg List.length hA
  obtain ⟨J, hJ⟩ : ∃ J : Nat → World → Prop, J = fun k W => k ≤ l.length ∧ ∃ c1 : Cx, c1.w = W ∧ HR c1 ∧ c1.A = S k ∧ Le A.length cD c1 ∧ c1.X = cD.X ∧ c1.G = cD.G ∧ WSame cD.w c1.w ∧ (∀ b, cD.X b → b ≠ D + 1 → c1.w.heap[b]? = cD.w.heap[b]?) ∧ W.heap[D + 1]? = some (.loop (rec .ready)) := ⟨_, rfl⟩
  have hJ0 : J 0 W1 := by
    rw [hJ]
    exact ⟨Nat.zero_le _, cD, rfl, HD, hA.trans hS0.symm, ⟨fun _ h _ => ⟨h, rfl⟩, fun t h => TokLe.refl (by rw [hlen]; exact h), by rw [hlen]; exact Nat.le_refl _⟩, rfl, rfl, WSame.refl _, fun _ _ _ => rfl, hL1⟩
  refine ⟨D + 1, [{ target := .collected D, args := #[] }], W1, { target := .fn (.func f) #[.pointer (some ⟨B, 0, none⟩)], args := #[.func (.yield (D + 1)) #[] #[]] }, W1, f,
    #[.func (.yield (D + 1)) #[] #[]] ++ #[.pointer (some ⟨B, 0, none⟩)], W1, ?_, ?_, fun _ _ => trivial, ?_, fun h => (by cases h), ?_⟩
  · rw [← hW1, hrec, hD]; exact run_enterLoop_outer _ _ _ _ _
  · simp only [resolve, hgv]
    simp [go_sem]
  · simp [invoke, go_sem, hent]
  · refine CallsIn.mono (hback (2 - 1) (D + 1) B l.length l (by omega) h0 h8 J ?_ ?_ W1 hJ0) ?_
    · -- the slice is read
      intro k W hk
      rw [hJ] at hk
      obtain ⟨hkl, c1, rfl, H1, hA1, le1, _⟩ := hk
      have hAt1 : c1.A[tok]? = some (.box [.fz (.list (.int .i64)) l]) := by rw [hA1]; exact hSt k hkl
      have htl : tok < A.length := by rw [← hA]; exact get_lt hAt
      have hρ : c1.ρ tok = cD.ρ tok := box_tok (le1.tok tok htl) (show cD.A[tok]? = _ from hAt) hAt1
      obtain ⟨b, cs, et, k1, k2, k3⟩ := H1.obj tok _ hAt1
      unfold RelL at k3
      obtain ⟨v, r, rfl, k3, k4⟩ := k3
      unfold RelL at k4
      subst k4
      rw [hρ, show cD.ρ tok = some B from hB] at k1
      cases k1
      obtain ⟨b', off, cap, rfl, hcell⟩ := fz_ints h0 k3
      exact ⟨b', off, cap, by unfold World.cell?; simp [k2], hcell⟩
    · -- one round
      intro k j W hk hkj
      rw [hJ] at hk
      obtain ⟨hkl, c1, rfl, H1, hA1, le1, X1, G1, st1, far1, hl1⟩ := hk
      have T1 : TR c1 T a.tmps := TD.le (by rw [hlen]; exact le1)
      have hG1 : c1.G = E.G := G1.trans (hE.G.trans hG)
      have x1 : c1.X (D + 1) := by rw [X1]; exact .inr (.inr rfl)
      have hy := run_yield (P := E.P) (args := #[.int .i64 (j : Int), .int .i64 (l[j]?.getD 0)]) hl1 (by rw [hrec]; rfl)
      rw [hrec] at hy
      let a1 : Act := ((wd a []).put (some p0) (.int .i64 (j : Int))).put (some p1) (.int .i64 (l[j]?.getD 0))
      obtain ⟨t1, n1, _⟩ := put_tr (a := wd a []) (d := some p0) (v := .fz (.int .i64) (j : Int)) (u := .int .i64 (j : Int)) (N := E.N) T1 hN (by show Nat.blt p0 E.N = true; simpa using hp0) (by unfold Rel; exact ⟨_, rfl, rfl⟩)
      obtain ⟨t2, n2, _⟩ := put_tr (d := some p1) (v := .fz (.int .i64) (l[j]?.getD 0)) (u := .int .i64 (l[j]?.getD 0)) (N := E.N) t1 n1 (by show Nat.blt p1 E.N = true; simpa using hp1) (by unfold Rel; exact ⟨_, rfl, rfl⟩)
      refine ⟨fn, a1.tmps, assign, body, ?_, roundIn_of_wpIn trivial ?_⟩
      · show _ = Result.ok (Next.round (D + 1) fn ((a.tmps.setIfInBounds p0 _).setIfInBounds p1 _) assign body) c1.w
        simpa using hy
      have hsim : Sim A.length c1 E.N ⟨(p1, .fz (.int .i64) (l[j]?.getD 0)) :: (p0, .fz (.int .i64) (j : Int)) :: T, S k⟩ a1 c1.w := ⟨c1, rfl, hA1, H1, t2, ExtN.refl (by rw [hA1, hSl k hkl]; exact Nat.le_refl _), rfl, n2⟩
      refine wpIn_mono (awp_sound_in ok1 (some (D + 1)) _ c1 hG1 assign nda _ _ _ _ (hround k j hkj) hsim) fun e a' w' ⟨σ1, hq, hs1⟩ => ?_
      cases e with
      | normal =>
        obtain ⟨c2, rfl, hA2, H2, hT2, hE2, hd2, hN2⟩ := hs1
        have x2 : c2.X (D + 1) := by rw [hE2.X]; exact x1
        have hl2 : c2.w.heap[D + 1]? = some (.loop (rec .ready)) := (hE2.far _ x1).trans hl1
        refine ⟨_, run_beginRound hl2 (by rw [hrec]), ?_⟩
        obtain ⟨o2, ho2⟩ : ∃ o2, o2 = Obj.loop { rec .ready with state := .busy } := ⟨_, rfl⟩
        rw [← ho2]
        have t2' := turn_put H2 x2 o2
        have H2' := t2'.hr H2
        have hl2' : (c2.w.putObj (D + 1) o2).heap[D + 1]? = some o2 := World.putObj_heap_same (some_lt hl2)
        refine wpIn_mono (awp_sound_in ok1 (some (D + 1)) _ { c2 with w := c2.w.putObj (D + 1) o2 } (hE2.G.trans hG1) body ndb _ σ1 a' _ hq ⟨{ c2 with w := c2.w.putObj (D + 1) o2 }, rfl, hA2, H2', hT2.le t2'.le, ExtN.refl hE2.le.len, hd2, hN2⟩) fun e a3 w3 ⟨σ3, hq3, hs3⟩ => ?_
        cases e with
        | normal =>
          obtain ⟨c3, rfl, hA3, H3, hT3, hE3, hd3, hN3⟩ := hs3
          obtain ⟨_, hq3⟩ : ∃ _u : Unit, Ent A.length σ3 ⟨[], S (k + 1)⟩ := hq3
          obtain ⟨c4, hw4, hE4, H4, hA4, _⟩ := hq3 c3 H3 hA3 hE3.le.len _ hT3
          have hl3 : c3.w.heap[D + 1]? = some o2 := (hE3.far _ x2).trans hl2'
          rw [ho2] at hl3
          have hr3 := run_endRound (P := E.P) none hl3
          have e3 : ({ { rec .ready with state := .busy } with state := if (none : Option Code).isNone then .ready else .done, pending := none } : Loop) = rec .ready := by rw [hrec]; rfl
          rw [e3] at hr3
          refine ⟨_, _, hr3, rfl, ?_⟩
          have x3 : c3.X (D + 1) := by rw [hE3.X]; exact x2
          have x4 : c4.X (D + 1) := by rw [hE4.X]; exact x3
          have t4 := turn_put H4 x4 (.loop (rec .ready))
          rw [hJ, ← hw4]
          refine ⟨by omega, { c4 with w := c4.w.putObj (D + 1) (.loop (rec .ready)) }, rfl, t4.hr H4, hA4, ?_, ?_, ?_, ?_, ?_, ?_⟩
          · have l3 := le_trans hE4.le t4.le hE4.le.len
            have l2 := le_trans hE3.le l3 (Nat.le_refl _)
            have l1 := le_trans (t2'.le.lower hE2.le.len) l2 (Nat.le_refl _)
            exact le_trans le1 (le_trans hE2.le l1 (Nat.le_refl _)) (Nat.le_refl _)
          · exact hE4.X.trans (hE3.X.trans (hE2.X.trans X1))
          · exact hE4.G.trans (hE3.G.trans (hE2.G.trans G1))
          · exact st1.trans (hE2.st.trans ((same_put _ _ _).trans (hE3.st.trans (hE4.st.trans (same_put _ _ _)))))
          · intro b hb hne
            have y1 : c1.X b := by rw [X1]; exact hb
            have y2 : c2.X b := by rw [hE2.X]; exact y1
            have y3 : c3.X b := by rw [hE3.X]; exact y2
            refine (World.putObj_heap_other hne).trans ((hE4.far b y3).trans ((hE3.far b y2).trans ?_))
            exact (World.putObj_heap_other hne).trans ((hE2.far b y1).trans (far1 b hb hne))
          · exact World.putObj_heap_same (by rw [hw4]; exact some_lt hl3)
        | _ => exact hq3.elim
      | _ => exact hq.elim
    · -- behind the iterator
      rintro e W' ⟨⟨v, rfl⟩, hk⟩
      rw [hJ] at hk
      obtain ⟨hkl, c1, rfl, H1, hA1, le1, X1, G1, st1, far1, hl1⟩ := hk
      have x1 : c1.X (D + 1) := by rw [X1]; exact .inr (.inr rfl)
      have hr := run_endLoop (P := E.P) hl1 (by rw [hrec]; simp)
      have pend : (rec .ready).pending = none := by rw [hrec]
      rw [pend] at hr
      refine ⟨none, _, hr, ?_⟩
      show QQ .normal _ (c1.w.putObj (D + 1) (.loop { rec .ready with state := .exhausted, pending := none }))
      generalize Obj.loop { rec .ready with state := .exhausted, pending := none } = o1
      have t1 := turn_put H1 x1 o1
      have T1 : TR c1 T a.tmps := TD.le (by rw [hlen]; exact le1)
      have hl1' : A.length ≤ c1.A.length := le1.len
      have := hQQ D { c1 with w := c1.w.putObj (D + 1) o1 } ⟨?_, ?_, ?_, ?_, ?_, ?_, ?_, ?_, ?_⟩ (t1.hr H1) hA1 (T1.le t1.le) hN
      · unfold wd at this
        show QQ .normal { a with defers := [{ target := .collected D, args := #[] }] ++ a.defers } _
        rw [hd]; exact this
      · have l1 := le_trans le1 t1.le hl1'
        have l2 := le_trans tD.le l1 (Nat.le_of_eq (congrArg List.length hA))
        exact le_trans hE.le l2 hE.le.len
      · exact G1.trans hE.G
      · intro b hb
        show c1.X b
        rw [X1]; exact .inl (by rw [hE.X]; exact hb)
      · show c1.X D
        rw [X1]; exact .inr (.inl rfl)
      · exact (World.putObj_heap_other (by omega)).trans ((far1 D (.inr (.inl rfl)) (by omega)).trans hD1)
      · intro hx
        have := H.old D (by rw [hE.X]; exact hx)
        omega
      · intro b hI hb
        obtain ⟨k1, k2⟩ := hE.le.I b hI hb
        have := heap_lt hb k2
        omega
      · intro b hb
        have hb' : c.X b := by rw [hE.X]; exact hb
        have := H.old b hb'
        exact (World.putObj_heap_other (by omega)).trans ((far1 b (.inl hb') (by omega)).trans ((hold b this).trans (hE.far b hb)))
      · exact hE.st.trans (sD.trans (st1.trans (same_put _ _ _)))
end Go.Ab
/-
  Tokens under other names; ends of functions; functions.
-/
namespace Go.Ab
open Go
def subTr (p : List Nat) (m : Nat) (T : List (Nat × AV)) : List (Nat × AV) → Prop
  | [] => True
  | [(d, v)] => lk T d = v.map (nameOf p) ∧ v.okB m = true
  | (d, v) :: T' => (lk T d = v.map (nameOf p) ∧ v.okB m = true) ∧ subTr p m T T'
theorem subTr_lk {p : List Nat} {n0 : Nat} {A' : List AO} {c : Cx} (R : RenOk n0 (nameOf p) c.A A') {T : List (Nat × AV)} {tmps : Array Value} (h : TR c T tmps) : ∀ T' : List (Nat × AV), subTr p A'.length T T' → TR (c.ren (nameOf p) A') T' tmps
  | [], _, n => by show Rel _ .unk _; exact rel_unk
  | [(d, v)], hs, n => by
    unfold lk
    by_cases hd : d = n
    · subst hd; rw [if_pos rfl]
      have hs : lk T d = v.map (nameOf p) ∧ v.okB A'.length = true := hs
      exact ren_rel R v _ hs.2 (by rw [← hs.1]; exact h d)
    · rw [if_neg hd]; exact rel_unk
  | (d, v) :: x :: T', hs, n => by
    unfold lk
    by_cases hd : d = n
    · subst hd; rw [if_pos rfl]
      exact ren_rel R v _ hs.1.2 (by rw [← hs.1.1]; exact h d)
    · rw [if_neg hd]; exact subTr_lk R h (x :: T') hs.2 n
theorem Ent.ren {n0 : Nat} {T T' : List (Nat × AV)} {A A' : List AO} (p : List Nat) (hB : renB p n0 A' = true) (hA : RenA p A A'.length 0 A') (hT : subTr p A'.length T T') : Ent n0 ⟨T, A⟩ ⟨T', A'⟩ := fun c H h hn tmps ht => by
  have h : c.A = A := h
  subst h
  have R := renOk_of hB hA
  obtain ⟨k1, k2⟩ := ren_sound H R
  exact ⟨c.ren (nameOf p) A', rfl, k1, k2, rfl, subTr_lk R ht T' hT⟩
/-! ### what comes out -/
def REnt (n0 : Nat) (r : AV) (A : List AO) (r' : AV) (A' : List AO) : Prop := ∀ c : Cx, HR c → c.A = A → n0 ≤ c.A.length → ∀ v, Rel c r v → ∃ c' : Cx, c'.w = c.w ∧ ExtN n0 c c' ∧ HR c' ∧ c'.A = A' ∧ Rel c' r' v
theorem REnt.refl (n0 : Nat) (r : AV) (A : List AO) : REnt n0 r A r A := fun c H hA hn _v hv => ⟨c, rfl, ExtN.refl hn, H, hA, hv⟩
theorem REnt.trans {n0 : Nat} {r r' r'' : AV} {A A' A'' : List AO} (h : REnt n0 r A r' A') (h' : REnt n0 r' A' r'' A'') : REnt n0 r A r'' A'' := fun c H hA hn v hv => by
  obtain ⟨c1, k1, k2, k3, k4, k5⟩ := h c H hA hn v hv
  obtain ⟨c2, j1, j2, j3, j4, j5⟩ := h' c1 k3 k4 k2.le.len v k5
  exact ⟨c2, j1.trans k1, k2.trans j2, j3, j4, j5⟩
theorem REnt.ren {n0 : Nat} {r r' : AV} {A A' : List AO} (p : List Nat) (hB : renB p n0 A' = true) (hA : RenA p A A'.length 0 A') (hr : r = r'.map (nameOf p) ∧ r'.okB A'.length = true) : REnt n0 r A r' A' := fun c H h hn v hv => by
  subst h
  have R := renOk_of hB hA
  obtain ⟨k1, k2⟩ := ren_sound H R
  exact ⟨c.ren (nameOf p) A', rfl, k1, k2, rfl, ren_rel R r' v hr.2 (by rw [← hr.1]; exact hv)⟩
theorem REnt.drop {r : AV} {A : List AO} (hr : (r.map (nameOf []) = r ∧ r.okB 0 = true)) : REnt 0 r A r [] := REnt.ren [] rfl trivial ⟨hr.1.symm, hr.2⟩
/-! ### functions -/
def resVs (D : Tab) (G : List (Nat × Value)) (A : List AO) (T : List (Nat × AV)) : List ResultVar → Option Prop × List AV
  | [] => (none, [])
  | .tmp t :: l => match resVs D G A T l with
    | (C, vs) => (C, lk T t :: vs)
  | .cell a ty :: l => match aLoad D G A ty (lk T a), resVs D G A T l with
    | (C, v), (C', vs) => (andC C C', v :: vs)
def retV : List AV → AV
  | [v] => v
  | vs => .tup vs
def runL (x : Option Prop × List AV) (K : AV → Prop) : Prop := match x with
  | (none, vs) => forceL vs fun vs' => K (retV vs')
  | (some C, vs) => C ∧ forceL vs fun vs' => K (retV vs')
theorem runL_of {x : Option Prop × List AV} {K : AV → Prop} (h : runL x K) : Hold x.1 ∧ K (retV x.2) := by
  obtain ⟨C, v⟩ := x
  cases C with
  | none => unfold runL at h; simp only [forceL_eq] at h; exact ⟨trivial, h⟩
  | some C => unfold runL at h; simp only [forceL_eq] at h; exact h
def Done (E : Env) (K : AV → List AO → Prop) (r : AV) (A : List AO) : Prop := ∃ r' A', REnt E.n0 r A r' A' ∧ K r' A'
def retQ (E : Env) (rs : List ResultVar) (K : AV → List AO → Prop) : Exit → St → Prop
  | .normal, σ => runL (resVs E.D E.G σ.A σ.T rs) fun r => Done E K r σ.A
  | .ret, σ => runL (resVs E.D E.G σ.A σ.T rs) fun r => Done E K r σ.A
  | _, _ => False
def resOf (tmps : Array Value) (r : ResultVar) : Sem Value := match r with
  | .tmp t => pure (tmps.getD t undef)
  | .cell a t => do loadVar t (← asAddr (tmps.getD a undef))
theorem results_eq (fn : Func) (tmps : Array Value) : results fn tmps = (do let vs ← fn.results.mapM (resOf tmps); pure (if h : vs.size = 1 then vs[0] else .tuple vs)) := by
  unfold results
  have : (fun x => match x with
    | ResultVar.tmp t => (pure (tmps.getD t undef) : Sem Value)
    | ResultVar.cell a t => do loadVar t (← asAddr (tmps.getD a undef))) = resOf tmps := by funext x; cases x <;> rfl
  rw [← this]; rfl
theorem resVs_sound {P : Program} {D : Tab} (hD : TabOk P D) {c : Cx} (H : HR c) {T : List (Nat × AV)} {tmps : Array Value} (hT : TR c T tmps) : ∀ (rs : List ResultVar), Hold (resVs D c.G c.A T rs).1 →
    ∃ vs, (rs.mapM (resOf tmps)).run P c.w = .ok vs c.w ∧ RelL c (resVs D c.G c.A T rs).2 vs
  | [], _ => ⟨[], by simp, by unfold resVs RelL; rfl⟩
  | .tmp t :: l, h => by
    unfold resVs at h
    obtain ⟨vs, h1, h2⟩ := resVs_sound hD H hT l h
    refine ⟨tmps.getD t undef :: vs, ?_, ?_⟩
    · simp only [List.mapM_cons, Sem.run_bind, resOf, Sem.run_pure, Result.andThen_ok, h1]
    · unfold resVs RelL; exact ⟨_, _, rfl, hT t, h2⟩
  | .cell a ty :: l, h => by
    unfold resVs at h
    obtain ⟨g1, g2⟩ := andC_of h
    obtain ⟨vs, h1, h2⟩ := resVs_sound hD H hT l g2
    obtain ⟨v, k1, k2⟩ := aLoad_sound hD H (hT a) g1
    have hrun : (resOf tmps (.cell a ty)).run P c.w = .ok v c.w := by
      unfold resOf
      unfold Instr.loadAt at k1
      cases hv : tmps.getD a undef <;> rw [hv] at k1 <;> try (simp [Instr.sureAddr, stuck] at k1; done)
      rename_i p
      cases p with
      | none => simp [Instr.sureAddr, stuck] at k1
      | some p =>
        simp only [hv]
        simpa [Instr.sureAddr, asAddr] using k1
    refine ⟨v :: vs, ?_, ?_⟩
    · simp only [List.mapM_cons, Sem.run_bind, hrun, Sem.run_pure, Result.andThen_ok, h1]
    · unfold resVs RelL; exact ⟨_, _, rfl, k2, h2⟩
def zipT : List AV → Nat → List (Nat × AV)
  | [], _ => []
  | a :: l, k => (k, a) :: zipT l (k + 1)
theorem zipT_lk : ∀ (l : List AV) (k n : Nat), lk (zipT l k) n = if k ≤ n then l.getD (n - k) .unk else .unk
  | [], k, n => by unfold zipT lk; split <;> simp
  | a :: l, k, n => by
    unfold zipT lk
    by_cases h : k = n
    · subst h; simp
    · rw [if_neg h, zipT_lk l (k + 1) n]
      by_cases h2 : k ≤ n
      · rw [if_pos h2, if_pos (by omega), show n - k = (n - (k + 1)) + 1 by omega]; rfl
      · rw [if_neg h2, if_neg (by omega)]
/-- a function from what its code does -/
theorem acall_wp {E : Env} (ok : EnvOk E) {f : FuncId} {fn : Func} {c : Code} {args : List AV} {A : List AO} {K : AV → List AO → Prop} (hf : E.P.funcs[f]? = some fn) (hb : fn.body = some c) (hnm : (fn.name == "runtime.NumGoroutine") = false) (hN : fn.ntmps = E.N) (hle : Nat.ble args.length E.N = true) (hn0 : A.length = E.n0)
    (h : ∀ (cx : Cx), cx.G = E.G → ∀ a w, Sim E.n0 cx E.N ⟨zipT args 0, A⟩ a w → c.wp E.P (Post E cx (retQ E fn.results.toList K)) a w) : ACall E.P E.G f args A K := by
  refine ⟨trivial, fun cx H hA hG vs hv => .inl ⟨⟨fn, hf, by rw [hb]; rfl, hnm⟩, ?_⟩⟩
  have hvl := hv.length
  have hle := Nat.le_of_ble_eq_true hle
  refine calls_of_wp hf hb ?_
  have hs : Sim E.n0 cx E.N ⟨zipT args 0, A⟩ { tmps := vs.toArray ++ Array.replicate (fn.ntmps - vs.toArray.size) undef, defers := [] } cx.w := by
    refine ⟨cx, rfl, hA, H, fun n => ?_, ExtN.refl (by rw [hA]; omega), rfl, by simp [hN]; omega⟩
    show Rel cx (lk (zipT args 0) n) _
    rw [zipT_lk, if_pos (Nat.zero_le _), Nat.sub_zero]
    by_cases hlt : n < args.length
    · obtain ⟨v, k1, k2⟩ := hv.get _ _ n args[n] (List.getElem?_eq_getElem hlt)
      have e1 : args.getD n .unk = args[n] := getD_of_lt hlt
      rw [e1]
      have : (vs.toArray ++ Array.replicate (fn.ntmps - vs.toArray.size) undef).getD n undef = v := by
        rw [Array.getD_eq_getD_getElem?, Array.getElem?_append_left (by simp; omega)]
        simp [k1]
      rw [this]; exact k2
    · have e1 : args.getD n .unk = .unk := by rw [List.getD, List.getElem?_eq_none (by omega)]; rfl
      rw [e1]; exact rel_unk
  refine wp_mono (h cx hG _ _ hs) fun e a w ⟨σ, hq, c1, hw, hA1, H1, hT1, hE1, hd1, _⟩ => ?_
  have fin : runL (resVs E.D E.G σ.A σ.T fn.results.toList) (fun r => Done E K r σ.A) → a.defers = [] ∧ ∃ v, (results fn a.tmps).run E.P w = .ok v w ∧ ∃ v_1 c' r, Ending.returned v = .returned v_1 ∧ c'.w = w ∧ Ext cx c' ∧ HR c' ∧ Rel c' r v_1 ∧ K r c'.A := by
    intro h
    refine ⟨hd1, ?_⟩
    obtain ⟨hC, hK⟩ := runL_of h
    have hG1 : c1.G = E.G := hE1.G.trans hG
    rw [← hA1, ← hG1] at hC hK
    obtain ⟨us, k1, k2⟩ := resVs_sound ok.tab H1 hT1 fn.results.toList hC
    obtain ⟨r', A', he, hk⟩ := hK
    have hrun : ∃ v, (results fn a.tmps).run E.P w = .ok v w ∧ Rel c1 (retV (resVs E.D c1.G c1.A σ.T fn.results.toList).2) v := by
      rw [hw] at k1
      have hl := k2.length
      have hm : (fn.results.mapM (resOf a.tmps)).run E.P w = .ok us.toArray w := by
        rw [Array.mapM_eq_mapM_toList, Sem.run_map, k1]; rfl
      refine ⟨if h : us.toArray.size = 1 then us.toArray[0] else .tuple us.toArray, ?_, ?_⟩
      · rw [results_eq]
        simp only [Sem.run_bind, hm, Result.andThen_ok, Sem.run_pure]
      · generalize (resVs E.D c1.G c1.A σ.T fn.results.toList).2 = rs at *
        match rs, us, k2, hl with
        | [], [], _, _ => simp; unfold retV Rel; exact ⟨[], rfl, by unfold RelL; rfl⟩
        | [r], [u], h, _ => simp; unfold RelL at h; obtain ⟨v, l, e, h1, _⟩ := h; cases e; exact h1
        | r :: r2 :: rs, u :: u2 :: us, h, _ =>
          rw [dif_neg (by simp)]
          unfold retV Rel
          exact ⟨_, rfl, h⟩
    obtain ⟨v, hv1, hv2⟩ := hrun
    obtain ⟨c2, j1, j2, j3, j4, j5⟩ := he c1 H1 rfl hE1.le.len v hv2
    refine ⟨v, hv1, v, c2, r', rfl, j1.trans hw, ?_, j3, j5, by rw [j4]; exact hk⟩
    have := hE1.trans j2
    rw [← hn0, ← hA] at this
    exact ⟨this.le, this.X, this.G, this.far, this.st⟩
  cases e with
  | normal => exact fin hq
  | ret => exact fin hq
  | _ => exact hq.elim
theorem acall_mk {E : Env} (ok : EnvOk E) {f : FuncId} {fn : Func} {c : Code} {args : List AV} {A : List AO} {K : AV → List AO → Prop} (hf : E.P.funcs[f]? = some fn) (hb : fn.body = some c) (hnm : (fn.name == "runtime.NumGoroutine") = false) (hN : fn.ntmps = E.N) (hle : Nat.ble args.length E.N = true) (hn0 : A.length = E.n0)
    (h : awp E c (retQ E fn.results.toList K) ⟨zipT args 0, A⟩) : ACall E.P E.G f args A K :=
  acall_wp ok hf hb hnm hN hle hn0 fun cx hG _ _ hs => awp_sound ok cx hG c _ _ _ _ h hs
/-- by a goto: to the label, in one of these states -/
def gotoQ {ι : Type} (n0 l : Nat) (S : ι → St) (I : ι → Prop) (Q : Exit → St → Prop) : Exit → St → Prop
  | .goto m, σ => l = m ∧ ∃ i, I i ∧ Ent n0 σ (S i)
  | e, σ => Q e σ
def noGoto (Q : Exit → St → Prop) : Exit → St → Prop
  | .goto _, _ => False
  | e, σ => Q e σ
/-- a function whose whole body is a scope with a label that is jumped to, forward only -/
theorem acall_mkS {E : Env} (ok : EnvOk E) {f : FuncId} {fn : Func} {c rest : Code} {args : List AV} {A : List AO} {K : AV → List AO → Prop} (l : Nat) {ι : Type} (S : ι → St) (I : ι → Prop) (hf : E.P.funcs[f]? = some fn) (hb : fn.body = some (.scope c)) (hl : findLabel c l = some rest) (hnm : (fn.name == "runtime.NumGoroutine") = false) (hN : fn.ntmps = E.N) (hle : Nat.ble args.length E.N = true) (hn0 : A.length = E.n0)
    (h : awp E c (gotoQ E.n0 l S I (retQ E fn.results.toList K)) ⟨zipT args 0, A⟩) (h2 : ∀ i, I i → awp E rest (noGoto (retQ E fn.results.toList K)) (S i)) : ACall E.P E.G f args A K := by
  refine acall_wp ok hf hb hnm hN hle hn0 fun cx hG a w hs => ?_
  have ent : ∀ {σ σ' : St} {a : Act} {w : World}, Ent E.n0 σ σ' → Sim E.n0 cx E.N σ a w → Sim E.n0 cx E.N σ' a w := by
    intro σ σ' a w he ⟨cy, hw, hA, H, hT, hE, hd, hN⟩
    obtain ⟨c', k1, k2, k3, k4, k5⟩ := he cy H hA hE.le.len _ hT
    exact ⟨c', k1.trans hw, k4, k3, k5, hE.trans k2, hd, hN⟩
  refine wp_scope_jumps l (fun a w => ∃ i, I i ∧ Sim E.n0 cx E.N (S i) a w) (fun _ _ => 0) hl ?_ ?_
  · refine wp_mono (awp_sound ok cx hG c _ _ _ _ h hs) fun e a w ⟨σ, hq, hs'⟩ => ?_
    cases e with
    | goto m => obtain ⟨rfl, i, hi, he⟩ := hq; exact ⟨rfl, i, hi, ent he hs'⟩
    | _ => exact ⟨σ, hq, hs'⟩
  · intro a w ⟨i, hi, hs'⟩
    refine wp_mono (awp_sound ok cx hG rest _ _ _ _ (h2 i hi) hs') fun e a w ⟨σ, hq, hs'⟩ => ?_
    cases e with
    | goto m => exact hq.elim
    | _ => exact ⟨σ, hq, hs'⟩
end Go.Ab
/-
  Functions in which a range over slices.Backward stands.
-/
namespace Go.Ab
open Go Go.RowKit Go.Shelf
def hasRF : Code → Bool
  | .rangeFunc _ _ _ _ => true
  | .seq x y => hasRF x || hasRF y
  | .block _ c => hasRF c
  | _ => false
/-- the loop stands where it may, and what follows it is calm -/
def okRF : Code → Bool
  | .rangeFunc _ ps x y => ndC x && ndC y && Nat.beq ps.size 2
  | .seq x y => match hasRF x with
    | true => okRF x && calmC y
    | false => okRF y
  | .block _ c => okRF c
  | _ => true
def RFc (E : Env) (f : Nat) (g : Operand) (p0 p1 : Nat) (assign body : Code) (M : St → Prop) (σ : St) : Prop :=
  ∃ (T : List (Nat × AV)) (A : List AO) (tok : Nat) (l : List Int) (S : Nat → List AO), Ent E.n0 σ ⟨T, A⟩ ∧ (Nat.blt p0 E.N = true ∧ Nat.blt p1 E.N = true) ∧ ev T g = .fn f [.ptr tok 0] ∧ 0 < l.length ∧ l.length * 8 ≤ 140737488351232 ∧ S 0 = A ∧
    (∀ k, k ≤ l.length → (S k)[tok]? = some (.box [.fz (.list (.int .i64)) l])) ∧ (∀ k, k ≤ l.length → (S k).length = A.length) ∧
    (∀ k j, k + j + 1 = l.length → awp ⟨E.P, E.D, E.G, E.N, A.length, E.cuts⟩ assign (thenQ (awp ⟨E.P, E.D, E.G, E.N, A.length, E.cuts⟩ body (rndQ A.length (S (k + 1)))) fun _ _ => False) ⟨(p1, .fz (.int .i64) (l[j]?.getD 0)) :: (p0, .fz (.int .i64) (j : Int)) :: T, S k⟩) ∧
    M ⟨T, S l.length⟩
def awpR (E : Env) (f : Nat) : Code → (Exit → St → Prop) → (Exit → St → Prop) → St → Prop
  | .seq x y, Q, M, σ => match hasRF x with
    | true => awpR E f x (thenQ (awp E y Q) Q) (thenQ (awp E y M) M) σ
    | false => awp E x (thenQ (awpR E f y Q M) Q) σ
  | .block id c, Q, M, σ => awpR E f c (blkQ id Q) (blkQ id M) σ
  | .rangeFunc g ⟨[p0, p1]⟩ x y, _, M, σ => RFc E f g p0 p1 x y (M .normal) σ
  | .rangeFunc _ _ _ _, _, _, _ => False
  | c, Q, _, σ => awp E c Q σ
def PostR (E : Env) (c0 : Cx) (Q M : Exit → St → Prop) : Exit → Act → World → Prop := fun e a w => Post E c0 Q e a w ∨ ∃ D c1, Mid E.n0 c0 c1 D ∧ PostD E c1 M [{ target := .collected D, args := #[] }] e a w
theorem post_blk {E : Env} {c0 : Cx} {Q : Exit → St → Prop} {id : Nat} {e : Exit} {a : Act} {w : World} (h : Post E c0 (blkQ id Q) e a w) : Exit.inBlock id (Post E c0 Q) e a w := by
  obtain ⟨σ', hq, hs'⟩ := h
  cases e with
  | exit i =>
    show if i = id then _ else _
    have hq : (match Nat.beq i id with | true => Q .normal σ' | false => Q (.exit i) σ') := hq
    by_cases hi : i = id
    · rw [if_pos hi]
      have : Nat.beq i id = true := by rw [hi]; simp
      rw [this] at hq; exact ⟨σ', hq, hs'⟩
    · rw [if_neg hi]
      have : Nat.beq i id = false := by
        cases hb : Nat.beq i id with
        | false => rfl
        | true => exact absurd (beq_eq hb) hi
      rw [this] at hq; exact ⟨σ', hq, hs'⟩
  | _ => exact ⟨σ', hq, hs'⟩
theorem inBlock_mono {id : Nat} {Q Q' : Exit → Act → World → Prop} (h : ∀ e a w, Q e a w → Q' e a w) : ∀ e a w, Exit.inBlock id Q e a w → Exit.inBlock id Q' e a w := fun e a w hq => by
  cases e with
  | exit i =>
    have hq : (if i = id then Q .normal a w else Q (.exit i) a w) := hq
    show if i = id then Q' .normal a w else Q' (.exit i) a w
    by_cases hi : i = id
    · rw [if_pos hi] at hq ⊢; exact h _ _ _ hq
    · rw [if_neg hi] at hq ⊢; exact h _ _ _ hq
  | _ => exact h _ _ _ hq
theorem awpR_sound {E : Env} (ok : EnvOk E) {f : Nat} (hback : BackOk E.P f) (hent : ∀ args w, (callFunc f args).run E.P w = .ok (.enter f args) w) (c0 : Cx) (hG : c0.G = E.G) : ∀ (c : Code), okRF c = true → ∀ (Q M : Exit → St → Prop) (σ : St) (a : Act) (w : World), awpR E f c Q M σ → Sim E.n0 c0 E.N σ a w → c.wpIn (FR none) 2 E.P (PostR E c0 Q M) a w := by
  have plain : ∀ (c : Code) (Q M : Exit → St → Prop) (σ : St) (a : Act) (w : World), awp E c Q σ → Sim E.n0 c0 E.N σ a w → c.wpIn (FR none) 2 E.P (PostR E c0 Q M) a w := fun c Q M σ a w h hs =>
    wpIn_mono (wpIn_wide (n := 2) |>.2 (awp_sound ok c0 hG c Q σ a w h hs)) fun _ _ _ h => .inl h
  intro c
  induction c with
  | seq x y ihx ihy =>
    intro hok Q M σ a w h hs
    unfold okRF at hok
    unfold awpR at h
    cases hx : hasRF x with
    | true =>
      rw [hx] at hok h
      simp only [Bool.and_eq_true] at hok h
      refine wpIn_seq (wpIn_mono (ihx hok.1 _ _ σ a w h hs) fun e a' w' hp => ?_)
      rcases hp with ⟨σ', hq, hs'⟩ | ⟨D, c1, hm, a0, rfl, σ', hq, hs'⟩
      · cases e with
        | normal => exact plain y Q M σ' a' w' hq hs'
        | _ => exact .inl ⟨σ', hq, hs'⟩
      · cases e with
        | normal => exact wpIn_mono (awp_sound_ds ok _ 2 c1 (hm.G.trans hG) y hok.2 M σ' a0 w' hq hs') fun e a w h => .inr ⟨D, c1, hm, h⟩
        | _ => exact .inr ⟨D, c1, hm, a0, rfl, σ', hq, hs'⟩
    | false =>
      rw [hx] at hok h
      simp only at hok h
      refine wpIn_seq (wpIn_mono (wpIn_wide (n := 2) |>.2 (awp_sound ok c0 hG x _ σ a w h hs)) fun e a' w' ⟨σ', hq, hs'⟩ => ?_)
      cases e with
      | normal => exact ihy hok Q M σ' a' w' hq hs'
      | _ => exact .inl ⟨σ', hq, hs'⟩
  | block id c ih =>
    intro hok Q M σ a w h hs
    refine wpIn_block (wpIn_mono (ih hok _ _ σ a w h hs) fun e a' w' hp => ?_)
    rcases hp with hp | ⟨D, c1, hm, a0, rfl, hp⟩
    · exact inBlock_mono (fun _ _ _ h => .inl h) _ _ _ (post_blk hp)
    · have := post_blk hp
      cases e with
      | exit i =>
        have this : (if i = id then Post E c1 M .normal a0 w' else Post E c1 M (.exit i) a0 w') := this
        show if i = id then _ else _
        by_cases hi : i = id
        · rw [if_pos hi] at this ⊢; exact .inr ⟨D, c1, hm, a0, rfl, this⟩
        · rw [if_neg hi] at this ⊢; exact .inr ⟨D, c1, hm, a0, rfl, this⟩
      | _ => exact .inr ⟨D, c1, hm, a0, rfl, this⟩
  | rangeFunc g ps x y _ _ =>
    intro hok Q M σ a w h hs
    obtain ⟨ps⟩ := ps
    match ps, hok, h with
    | [p0, p1], hok, h =>
      unfold okRF at hok
      simp only [Bool.and_eq_true] at hok
      obtain ⟨T, A, tok, l, S, he, ⟨h0, h1⟩, hg, hl, h8, hS0, hSt, hSl, hr, hM⟩ := h
      have hs' : Sim E.n0 c0 E.N ⟨T, A⟩ a w := by
        obtain ⟨cx, hw, hA, H, hT, hE, hd, hN⟩ := hs
        obtain ⟨c', k1, k2, k3, k4, k5⟩ := he cx H hA hE.le.len _ hT
        exact ⟨c', k1.trans hw, k4, k3, k5, hE.trans k2, hd, hN⟩
      have hd : a.defers = [] := by obtain ⟨_, _, _, _, _, _, hd, _⟩ := hs; exact hd
      refine rf_wp ok hback hent hok.1.1 hok.1.2 hG (by simpa using h0) (by simpa using h1) hg hl h8 S hS0 hSt hSl hr hs' fun D c1 hm H1 hA1 hT1 hN1 => ?_
      refine .inr ⟨D, c1, hm, a, rfl, ⟨T, S l.length⟩, hM, c1, rfl, hA1, H1, hT1, ExtN.refl hm.le.len, hd, hN1⟩
    | [], _, h => exact h.elim
    | [_], _, h => exact h.elim
    | _ :: _ :: _ :: _, _, h => exact h.elim
  | _ => intro _ Q M σ a w h hs; exact plain _ Q M σ a w h hs
/-! ### functions -/
theorem fin_ok {E : Env} (ok : EnvOk E) {cx : Cx} (hG : cx.G = E.G) (hn0 : E.n0 = cx.A.length) {fn : Func} {K : AV → List AO → Prop} {σ : St} {tmps : Array Value} {c1 : Cx} (hA1 : c1.A = σ.A) (H1 : HR c1) (hT1 : TR c1 σ.T tmps) (hE1 : ExtN E.n0 cx c1)
    (h : runL (resVs E.D E.G σ.A σ.T fn.results.toList) (fun r => Done E K r σ.A)) : ∃ v, (results fn tmps).run E.P c1.w = .ok v c1.w ∧ ∃ v_1 c' r, Ending.returned v = .returned v_1 ∧ c'.w = c1.w ∧ Ext cx c' ∧ HR c' ∧ Rel c' r v_1 ∧ K r c'.A := by
  obtain ⟨hC, hK⟩ := runL_of h
  have hG1 : c1.G = E.G := hE1.G.trans hG
  rw [← hA1, ← hG1] at hC hK
  obtain ⟨us, k1, k2⟩ := resVs_sound ok.tab H1 hT1 fn.results.toList hC
  obtain ⟨r', A', he, hk⟩ := hK
  have hrun : ∃ v, (results fn tmps).run E.P c1.w = .ok v c1.w ∧ Rel c1 (retV (resVs E.D c1.G c1.A σ.T fn.results.toList).2) v := by
    have hl := k2.length
    have hm : (fn.results.mapM (resOf tmps)).run E.P c1.w = .ok us.toArray c1.w := by
      rw [Array.mapM_eq_mapM_toList, Sem.run_map, k1]; rfl
    refine ⟨if h : us.toArray.size = 1 then us.toArray[0] else .tuple us.toArray, ?_, ?_⟩
    · rw [results_eq]
      simp only [Sem.run_bind, hm, Result.andThen_ok, Sem.run_pure]
    · generalize (resVs E.D c1.G c1.A σ.T fn.results.toList).2 = rs at *
      match rs, us, k2, hl with
      | [], [], _, _ => simp; unfold retV Rel; exact ⟨[], rfl, by unfold RelL; rfl⟩
      | [r], [u], h, _ => simp; unfold RelL at h; obtain ⟨v, l, e, h1, _⟩ := h; cases e; exact h1
      | r :: r2 :: rs, u :: u2 :: us, h, _ =>
        rw [dif_neg (by simp)]
        unfold retV Rel
        exact ⟨_, rfl, h⟩
  obtain ⟨v, hv1, hv2⟩ := hrun
  obtain ⟨c2, j1, j2, j3, j4, j5⟩ := he c1 H1 rfl hE1.le.len v hv2
  refine ⟨v, hv1, v, c2, r', rfl, j1, ?_, j3, j5, by rw [j4]; exact hk⟩
  have := hE1.trans j2
  rw [hn0] at this
  exact ⟨this.le, this.X, this.G, this.far, this.st⟩
theorem acall_mkR {E : Env} (ok : EnvOk E) {f : FuncId} {fn : Func} {c : Code} {args : List AV} {A : List AO} {K : AV → List AO → Prop} {bf : Nat} (hback : BackOk E.P bf) (hent : ∀ args w, (callFunc bf args).run E.P w = .ok (.enter bf args) w) (hf : E.P.funcs[f]? = some fn) (hb : fn.body = some c) (hnm : (fn.name == "runtime.NumGoroutine") = false) (hN : fn.ntmps = E.N) (hle : Nat.ble args.length E.N = true) (hn0 : A.length = E.n0) (hok : okRF c = true)
    (h : awpR E bf c (retQ E fn.results.toList K) (retQ E fn.results.toList K) ⟨zipT args 0, A⟩) : ACall E.P E.G f args A K := by
  refine ⟨trivial, fun cx H hA hG vs hv => .inl ⟨⟨fn, hf, by rw [hb]; rfl, hnm⟩, ?_⟩⟩
  have hvl := hv.length
  have hle := Nat.le_of_ble_eq_true hle
  refine callsIn_wide (n := 2) |>.1 (callsIn_of_wp_marks hf hb trivial ?_ rfl)
  have hs : Sim E.n0 cx E.N ⟨zipT args 0, A⟩ { tmps := vs.toArray ++ Array.replicate (fn.ntmps - vs.toArray.size) undef, defers := [] } cx.w := by
    refine ⟨cx, rfl, hA, H, fun n => ?_, ExtN.refl (by rw [hA]; omega), rfl, by simp [hN]; omega⟩
    show Rel cx (lk (zipT args 0) n) _
    rw [zipT_lk, if_pos (Nat.zero_le _), Nat.sub_zero]
    by_cases hlt : n < args.length
    · obtain ⟨v, k1, k2⟩ := hv.get _ _ n args[n] (List.getElem?_eq_getElem hlt)
      have e1 : args.getD n .unk = args[n] := getD_of_lt hlt
      rw [e1]
      have : (vs.toArray ++ Array.replicate (fn.ntmps - vs.toArray.size) undef).getD n undef = v := by
        rw [Array.getD_eq_getD_getElem?, Array.getElem?_append_left (by simp; omega)]
        simp [k1]
      rw [this]; exact k2
    · have e1 : args.getD n .unk = .unk := by rw [List.getD, List.getElem?_eq_none (by omega)]; rfl
      rw [e1]; exact rel_unk
  have hn : E.n0 = cx.A.length := by rw [hA]; exact hn0.symm
  refine wpIn_mono (awpR_sound ok hback hent cx hG c hok _ _ _ _ _ h hs) fun e a w hp => ?_
  rcases hp with ⟨σ, hq, c1, rfl, hA1, H1, hT1, hE1, hd1, _⟩ | ⟨D, c1, hm, a0, rfl, σ, hq, c2, rfl, hA2, H2, hT2, hE2, hd2, _⟩
  · have fin := fun h => fin_ok (K := K) (fn := fn) ok hG hn hA1 H1 hT1 hE1 h
    cases e with
    | normal => show LeavesInM _ _ _ _ _ _ a.defers _ _; rw [hd1]; exact fin hq
    | ret => show LeavesInM _ _ _ _ _ _ a.defers _ _; rw [hd1]; exact fin hq
    | _ => exact hq.elim
  · have x2 : c2.X D := by rw [hE2.X]; exact hm.XD
    have d2 : c2.w.heap[D]? = some (.deferred (some [])) := (hE2.far D hm.XD).trans hm.dfr
    have xs : ∀ b, cx.X b → c2.X b := fun b hb => by rw [hE2.X]; exact hm.X b hb
    have t : Turn c2 { c2 with X := cx.X, w := c2.w.putObj D (.deferred none) } := by
      refine ⟨rfl, rfl, rfl, fun b hI _ => ⟨⟨fun hx => hI.1 (xs b hx), hI.2⟩, World.putObj_heap_other (fun e => hI.1 (e ▸ x2))⟩, fun t b hl hb => ⟨fun hx => H2.far t b hl hb (xs b hx), World.putObj_heap_other (fun e => H2.far t b hl hb (e ▸ x2))⟩, fun b hb => ?_⟩
      have := H2.old b (xs b hb)
      show b < (c2.w.putObj D (.deferred none)).heap.size
      simpa using this
    have hE3 : ExtN E.n0 cx { c2 with X := cx.X, w := c2.w.putObj D (.deferred none) } := by
      refine ⟨le_trans hm.le (le_trans hE2.le t.le hE2.le.len) (Nat.le_refl _), rfl, hE2.G.trans hm.G, fun b hb => ?_, hm.st.trans (hE2.st.trans (same_put _ _ _))⟩
      exact (World.putObj_heap_other (show b ≠ D from fun e => hm.notX (by rw [← e]; exact hb))).trans ((hE2.far b (hm.X b hb)).trans (hm.far b hb))
    have fin := fun h => fin_ok (K := K) (fn := fn) ok hG hn (c1 := { c2 with X := cx.X, w := c2.w.putObj D (.deferred none) }) hA2 (t.hr H2) (hT2.le t.le) hE3 h
    cases e with
    | normal => exact ⟨by simp, .inl ⟨D, _, rfl, run_takeDeferred d2, fin hq⟩⟩
    | ret => exact ⟨by simp, .inl ⟨D, _, rfl, run_takeDeferred d2, fin hq⟩⟩
    | _ => exact hq.elim
end Go.Ab
/-
  Maps: an object that is turned; what the operations on maps do.
-/
namespace Go.Ab
open Go Go.ChangeMaps Go.Maps
theorem rel_ptr_map {c : Cx} {tok off : Nat} {i : MI} {vs : List AV} {v : Value} (h0 : c.A[tok]? = some (.mapo i vs)) (h : Rel c (.ptr tok off) v) : ∃ b, c.ρ tok = some b ∧ v = MI.val b i.isIter := by
  unfold Rel at h; rw [h0] at h; exact h
theorem rel_map_ptr {c : Cx} {tok off b : Nat} {i : MI} {vs : List AV} (h0 : c.A[tok]? = some (.mapo i vs)) (h : c.ρ tok = some b) : Rel c (.ptr tok off) (MI.val b i.isIter) := by
  unfold Rel; rw [h0]; exact ⟨b, h, rfl⟩
/-! ### an object of the model's own is turned -/
def Cx.wrO (c : Cx) (tok b : Nat) (ob : Obj) (o : AO) : Cx := { c with w := { c.w with heap := c.w.heap.setIfInBounds b ob }, A := c.A.set tok o }
section
variable {c : Cx} {tok b : Nat} {ob : Obj} {i j : MI} {vs us : List AV}
theorem wrO_other {o : AO} {k : Nat} (h : k ≠ b) : (c.wrO tok b ob o).w.heap[k]? = c.w.heap[k]? := by
  show (c.w.heap.setIfInBounds b ob)[k]? = _
  rw [Array.getElem?_setIfInBounds_ne (fun e => h e.symm)]
theorem wrO_self {o : AO} (h : b < c.w.heap.size) : (c.wrO tok b ob o).w.heap[b]? = some ob := by
  show (c.w.heap.setIfInBounds b ob)[b]? = _
  rw [Array.getElem?_setIfInBounds_self]; simp [h]
theorem wrO_live (h0 : c.A[tok]? = some (.mapo i vs)) {t : Nat} (h : (c.wrO tok b ob (.mapo j us)).live t) : c.live t := by
  obtain ⟨x, h1, h2⟩ := h
  by_cases ht : tok = t
  · subst ht; exact ⟨_, h0, rfl⟩
  · refine ⟨x, ?_, h2⟩
    have : (c.A.set tok (.mapo j us))[t]? = some x := h1
    rwa [List.getElem?_set_ne ht] at this
theorem ext_wrO (H : HR c) (h0 : c.A[tok]? = some (.mapo i vs)) (hk : i.isIter = j.isIter) (hr : c.ρ tok = some b) : Ext c (c.wrO tok b ob (.mapo j us)) := by
  have hlive : c.live tok := ⟨_, h0, rfl⟩
  have hX := H.far tok b hlive hr
  refine ⟨⟨fun k hI hk => ⟨⟨hI.1, fun t ht => hI.2 t (wrO_live h0 ht)⟩, wrO_other (fun e => ?_)⟩, fun t ht => ?_, by show _ ≤ (c.A.set tok _).length; simp⟩, rfl, rfl, fun k hk => wrO_other (fun e => ?_), ⟨rfl, rfl, rfl⟩⟩
  · subst e; exact hI.2 tok hlive hr
  · unfold TokLe
    by_cases htt : tok = t
    · subst htt
      have : (c.wrO tok b ob (.mapo j us)).A[tok]? = some (.mapo j us) := by show (c.A.set tok _)[tok]? = _; rw [List.getElem?_set_self ht]
      rw [this]
      exact .inl ⟨⟨i, vs, h0, hk⟩, rfl⟩
    · have : (c.wrO tok b ob (.mapo j us)).A[t]? = c.A[t]? := by show (c.A.set tok _)[t]? = _; rw [List.getElem?_set_ne htt]
      rw [this]
      have ht0 := TokLe.refl ht
      unfold TokLe at ht0
      cases hA : c.A[t]? with
      | none => rw [hA] at ht0; exact ht0
      | some x =>
        rw [hA] at ht0
        cases x with
        | dead => trivial
        | room => exact ht0
        | box vs => exact ht0
        | mapo i vs => exact ht0
        | row e xs =>
          simp only at ht0 ⊢
          rcases ht0 with ht0 | ht0
          rotate_left
          · exact .inr ht0
          refine .inl ⟨ht0.1, rfl, fun b' cs' et' hb' hc => ?_⟩
          by_cases hbb : b' = b
          · subst hbb
            exact absurd (H.inj tok t b' hlive ⟨_, hA, rfl⟩ hr hb') htt
          · exact ⟨cs', (wrO_other hbb).trans hc, rfl⟩
  · subst e; exact hX hk
theorem hr_wrO (H : HR c) (h0 : c.A[tok]? = some (.mapo i vs)) (hk : i.isIter = j.isIter) (hr : c.ρ tok = some b) (ho : ObjOk (c.wrO tok b ob (.mapo j us)) (some b) (.mapo j us)) : HR (c.wrO tok b ob (.mapo j us)) := by
  have E := ext_wrO (ob := ob) (us := us) H h0 hk hr
  have hlive : c.live tok := ⟨_, h0, rfl⟩
  have htl := get_lt h0
  refine ⟨fun t k ht hk => H.far t k (wrO_live h0 ht) hk, fun t u k ht hu h1 h2 => H.inj t u k (wrO_live h0 ht) (wrO_live h0 hu) h1 h2, fun t x h => ?_, fun k hk => ?_, fun g v h => ?_⟩
  · by_cases htt : tok = t
    · subst htt
      have : (c.wrO tok b ob (.mapo j us)).A[tok]? = some (.mapo j us) := by show (c.A.set tok _)[tok]? = _; rw [List.getElem?_set_self htl]
      rw [this] at h; cases h
      show ObjOk _ (c.ρ tok) _
      rw [hr]; exact ho
    · have : (c.wrO tok b ob (.mapo j us)).A[t]? = c.A[t]? := by show (c.A.set tok _)[t]? = _; rw [List.getElem?_set_ne htt]
      rw [this] at h
      refine objOk_ext E (H.obj t x h) (fun hxl k hk => wrO_other (fun e => ?_))
      subst e
      exact htt (H.inj tok t k hlive ⟨x, h, hxl⟩ hr hk)
  · show k < (c.w.heap.setIfInBounds b ob).size
    rw [Array.size_setIfInBounds]; exact H.old k hk
  · exact (H.glo g v h).mono E.le.I
end
/-! ### the operations -/
section
variable {P : Program} {G : List (Nat × Value)} {A : List AO} {T : List (Nat × AV)} {Kk : AV → List AO → Prop}
theorem aact_make {t : TypeId} (h : ∀ b, Kk (.ptr A.length 0) (A ++ [.mapo (.map b 0 []) []])) : AAct P G A T (.makeMap t none) Kk := by
  refine ⟨?_⟩
  rintro c a ⟨dst, op, type, pos, after, guard⟩ H hA hG rfl hT
  have E := ext_newO H (.map #[] 0) (.mapo (.map c.w.heap.size 0 []) [])
  have hn : (c.newO (.map #[] 0) (.mapo (.map c.w.heap.size 0 []) [])).A[c.A.length]? = some (.mapo (.map c.w.heap.size 0 []) []) := newO_A_new
  refine ⟨c.newO (.map #[] 0) (.mapo (.map c.w.heap.size 0 []) []), .value (.map (some c.w.heap.size)), _, .ptr c.A.length 0, ?_, .inl rfl, E, hr_newO H ?_, rel_map_ptr (b := c.w.heap.size) hn newO_ρ_new, ?_⟩
  · simp [execOp, Instr.makeMap, newObj, Sem.run]; rfl
  · exact ⟨c.w.heap.size, _, [], rfl, newO_heap_new, ⟨rfl, #[], rfl, rfl, rfl, fun e he => by cases he⟩, by unfold RelL; rfl⟩
  · have := h c.w.heap.size
    subst hA; exact this
theorem mok_map {bm clock b : Nat} {ks : List (Nat × Value)} {o : Obj} {us : List Value} (h : MOk (.map bm clock ks) b o us) : b = bm ∧ ∃ es : Array MapEntry, o = .map es clock ∧ es.toList.map (fun e => (e.born, e.key)) = ks ∧ es.toList.map (·.val) = us ∧ ∀ e ∈ es.toList, e.born < clock := h
/-- what the state knows of a map -/
theorem map_at {c : Cx} (H : HR c) {tok off bm clock : Nat} {ks : List (Nat × Value)} {vs : List AV} {v : Value} (h0 : c.A[tok]? = some (.mapo (.map bm clock ks) vs)) (hr : Rel c (.ptr tok off) v) :
    v = .map (some bm) ∧ c.ρ tok = some bm ∧ ∃ es : Array MapEntry, c.w.heap[bm]? = some (.map es clock) ∧ es.toList.map (fun e => (e.born, e.key)) = ks ∧ RelL c vs (es.toList.map (·.val)) ∧ ∀ e ∈ es.toList, e.born < clock := by
  obtain ⟨b, h1, rfl⟩ := rel_ptr_map h0 hr
  obtain ⟨b', ob, us, h2, h3, h4, h5⟩ := H.obj tok _ h0
  rw [h1] at h2; cases h2
  obtain ⟨rfl, es, rfl, k1, rfl, k2⟩ := mok_map h4
  exact ⟨rfl, h1, es, h3, k1, h5, k2⟩
end
/-! ### look-up, store -/
section
variable {P : Program} {G : List (Nat × Value)} {A : List AO} {T : List (Nat × AV)} {Kk : AV → List AO → Prop}
theorem ix_map {es : Array MapEntry} {ks : List (Nat × Value)} (h : es.toList.map (fun e => (e.born, e.key)) = ks) {j : Nat} {e : MapEntry} (he : es.toList[j]? = some e) : ks[j]? = some (e.born, e.key) := by
  rw [← h, List.getElem?_map, he]; rfl
theorem mem_map_of {es : Array MapEntry} {ks : List (Nat × Value)} (h : es.toList.map (fun e => (e.born, e.key)) = ks) {p : Nat × Value} (hp : p ∈ ks) : ∃ e ∈ es.toList, p = (e.born, e.key) := by
  rw [← h] at hp
  obtain ⟨e, h1, h2⟩ := List.mem_map.1 hp
  exact ⟨e, h1, h2.symm⟩
theorem RelL.get' {c : Cx} {l : List AV} {vs : List Value} (h : RelL c l vs) {i : Nat} {v : Value} (hi : vs[i]? = some v) : ∃ a, l[i]? = some a ∧ Rel c a v := by
  have hl := RelL.length l vs h
  have hlt : i < l.length := by have := get_lt hi; omega
  obtain ⟨v', h1, h2⟩ := RelL.get l vs i l[i] h (List.getElem?_eq_getElem hlt)
  rw [hi] at h1; cases h1
  exact ⟨_, List.getElem?_eq_getElem hlt, h2⟩
theorem aact_lookup {t kt et : TypeId} {x k : Operand} {ok : Bool} {tok off bm clock : Nat} {ks : List (Nat × Value)} {vs : List AV} {kv : Value} {z : AV}
    (hx : ev T x = .ptr tok off) (ho : A[tok]? = some (.mapo (.map bm clock ks) vs)) (ht : P.underlying t = some (.map kt et)) (K : Keyed P kt)
    (hk : ∀ c v, Rel c (ev T k) v → v = kv) (hkl : ∃ l, keyOf P kt kv = some l) (hks : ∀ p ∈ ks, ∃ l, keyOf P kt p.2 = some l)
    (hz : ∀ c : Cx, ∃ zv, (zeroValue et).run P c.w = .ok zv c.w ∧ Rel c z zv)
    (h1 : (∀ p ∈ ks, p.2 ≠ kv) → Kk (if ok then .tup [z, .fz .bool false] else z) A)
    (h2 : ∀ (j : Nat) (p : Nat × Value) (a : AV), ks[j]? = some p → p.2 = kv → vs[j]? = some a → Kk (if ok then .tup [a, .fz .bool true] else a) A) : AAct P G A T (.lookup t x k ok) Kk := by
  refine ⟨?_⟩
  rintro c a ⟨dst, op, type, pos, after, guard⟩ H hA hG rfl hT
  have rx := hT x (by simp [Op.operands])
  have rk := hk c _ (hT k (by simp [Op.operands]))
  rw [hx] at rx
  subst hA
  obtain ⟨e1, hr, es, hb, hks', hvs, hold⟩ := map_at H ho rx
  obtain ⟨l, hl⟩ := hkl
  obtain ⟨zv, z1, z2⟩ := hz c
  have run : ∀ r : Option (Nat × Value), (Instr.findKey kt kv es.toList).run P c.w = .ok r c.w → (Instr.lookup t (a.eval x) (a.eval k) ok).run P c.w =
      .ok (match r with | some (_, v) => if ok then .tuple #[v, .bool true] else v | none => if ok then .tuple #[zv, .bool false] else zv) c.w := by
    intro r hf
    rw [e1, rk]
    cases r with
    | none => simp [Instr.lookup, run_underlying ht, MapKept.run_getObj_map hb, K.check c.w _ hl, hf, z1, Result.andThen]
    | some y => simp [Instr.lookup, run_underlying ht, MapKept.run_getObj_map hb, K.check c.w _ hl, hf, Result.andThen]
  rcases K.find c.w hl es.toList (fun e he => hks (e.born, e.key) (by rw [← hks']; exact List.mem_map.2 ⟨e, he, rfl⟩)) with ⟨f1, f2⟩ | ⟨j, e, f1, f2, f3⟩
  · have hK := h1 (fun p hp => by obtain ⟨e, he, rfl⟩ := mem_map_of hks' hp; exact f2 e he)
    refine ⟨c, _, _, _, by simp only [execOp, Sem.run_bind, run _ f1, Result.andThen_ok, Sem.run_pure]; rfl, .inl rfl, Ext.refl c, H, ?_, hK⟩
    cases ok
    · exact z2
    · simp only [if_true]
      unfold Rel; exact ⟨[zv, .bool false], rfl, by unfold RelL; exact ⟨_, _, rfl, z2, by unfold RelL; exact ⟨_, _, rfl, rel_bool.2 rfl, by unfold RelL; rfl⟩⟩⟩
  · obtain ⟨av, g1, g2⟩ := hvs.get' (i := j) (v := e.val) (by rw [List.getElem?_map, f2]; rfl)
    have hK := h2 j _ av (ix_map hks' f2) f3 g1
    refine ⟨c, _, _, _, by simp only [execOp, Sem.run_bind, run _ f1, Result.andThen_ok, Sem.run_pure]; rfl, .inl rfl, Ext.refl c, H, ?_, hK⟩
    cases ok
    · exact g2
    · simp only [if_true]
      unfold Rel; exact ⟨[e.val, .bool true], rfl, by unfold RelL; exact ⟨_, _, rfl, g2, by unfold RelL; exact ⟨_, _, rfl, rel_bool.2 rfl, by unfold RelL; rfl⟩⟩⟩
theorem run_setObj_map' {w : World} {r : Nat} {es : Array MapEntry} {clock : Nat} (o : Obj) (hb : w.heap[r]? = some (.map es clock)) : (setObj r o).run P w = .ok () { w with heap := w.heap.setIfInBounds r o } := by
  simp [setObj, Sem.run, hb]
theorem RelL.set {c : Cx} : ∀ {l : List AV} {vs : List Value} (j : Nat) {a : AV} {v : Value}, RelL c l vs → Rel c a v → RelL c (l.set j a) (vs.set j v)
  | [], vs, j, a, v, h, _ => by unfold RelL at h; subst h; simp; unfold RelL; rfl
  | b :: l, vs, 0, a, v, h, hr => by
    unfold RelL at h
    obtain ⟨u, r, rfl, h1, h2⟩ := h
    simp only [List.set_cons_zero]
    unfold RelL; exact ⟨v, r, rfl, hr, h2⟩
  | b :: l, vs, j + 1, a, v, h, hr => by
    unfold RelL at h
    obtain ⟨u, r, rfl, h1, h2⟩ := h
    simp only [List.set_cons_succ]
    unfold RelL; exact ⟨u, _, rfl, h1, RelL.set j h2 hr⟩
theorem aact_store {t kt et : TypeId} {x k y : Operand} {tok off bm clock : Nat} {ks : List (Nat × Value)} {vs : List AV} {kv : Value}
    (hx : ev T x = .ptr tok off) (ho : A[tok]? = some (.mapo (.map bm clock ks) vs)) (ht : P.underlying t = some (.map kt et)) (K : Keyed P kt)
    (hk : ∀ c v, Rel c (ev T k) v → v = kv) (hkl : ∃ l, keyOf P kt kv = some l) (hks : ∀ p ∈ ks, ∃ l, keyOf P kt p.2 = some l)
    (h1 : (∀ p ∈ ks, p.2 ≠ kv) → Kk .unk (A.set tok (.mapo (.map bm (clock + 1) (ks ++ [(clock, kv)])) (vs ++ [ev T y]))))
    (h2 : ∀ (j : Nat) (p : Nat × Value), ks[j]? = some p → p.2 = kv → Kk .unk (A.set tok (.mapo (.map bm clock ks) (vs.set j (ev T y))))) : AAct P G A T (.mapUpdate t x k y) Kk := by
  refine ⟨?_⟩
  rintro c a ⟨dst, op, type, pos, after, guard⟩ H hA hG rfl hT
  have rx := hT x (by simp [Op.operands])
  have rk := hk c _ (hT k (by simp [Op.operands]))
  have ry := hT y (by simp [Op.operands])
  rw [hx] at rx
  subst hA
  obtain ⟨e1, hr, es, hb, hks', hvs, hold⟩ := map_at H ho rx
  obtain ⟨l, hl⟩ := hkl
  have hlt := some_lt hb
  rcases K.find c.w hl es.toList (fun e he => hks (e.born, e.key) (by rw [← hks']; exact List.mem_map.2 ⟨e, he, rfl⟩)) with ⟨f1, f2⟩ | ⟨j, e, f1, f2, f3⟩
  · have hK := h1 (fun p hp => by obtain ⟨e, he, rfl⟩ := mem_map_of hks' hp; exact f2 e he)
    have E := ext_wrO (ob := .map (es.push { key := kv, val := a.eval y, born := clock }) (clock + 1)) (j := .map bm (clock + 1) (ks ++ [(clock, kv)])) (us := vs ++ [ev T y]) H ho rfl hr
    refine ⟨_, .skip, undef, .unk, ?_, .inr ⟨rfl, rfl⟩, E, hr_wrO H ho rfl hr ?_, rel_unk, hK⟩
    · simp [execOp, Instr.mapUpdate, e1, rk, run_underlying ht, MapKept.run_getObj_map hb, K.check c.w _ hl, f1, Result.andThen, run_setObj_map' _ hb]; rfl
    · refine ⟨bm, _, _, rfl, wrO_self hlt, ⟨rfl, _, rfl, ?_, rfl, ?_⟩, ?_⟩
      · simp [hks']
      · intro e he
        simp at he
        rcases he with he | rfl
        · have := hold e (by simpa using he); omega
        · simp
      · simp only [Array.toList_push, List.map_append, List.map_cons, List.map_nil]
        exact RelL.append _ _ _ _ (hvs.ext E) (by unfold RelL; exact ⟨_, _, rfl, ry.ext E, by unfold RelL; rfl⟩)
  · have hK := h2 j _ (ix_map hks' f2) f3
    have E := ext_wrO (ob := .map (es.modify j fun e => { e with key := kv, val := a.eval y }) clock) (j := .map bm clock ks) (us := vs.set j (ev T y)) H ho rfl hr
    refine ⟨_, .skip, undef, .unk, ?_, .inr ⟨rfl, rfl⟩, E, hr_wrO H ho rfl hr ?_, rel_unk, hK⟩
    · have hj : es[j]? = some e := by simpa using f2
      have hst := K.stays (P := P) c.w hl
      simp [execOp, Instr.mapUpdate, e1, rk, run_underlying ht, MapKept.run_getObj_map hb, K.check c.w _ hl, f1, Result.andThen, hj, f3, hst, run_setObj_map' _ hb]; rfl
    · have hmod : ∀ {β : Type} (g : MapEntry → β) (v : β), (∀ e', es.toList[j]? = some e' → g { e' with key := kv, val := a.eval y } = v) → (es.modify j fun e => { e with key := kv, val := a.eval y }).toList.map g = (es.toList.map g).set j v := by
        intro β g v hg
        apply List.ext_getElem?
        intro m
        rw [List.getElem?_map, List.getElem?_set]
        simp only [Array.toList_modify, List.getElem?_modify, List.length_map]
        by_cases hjm : j = m
        · subst hjm
          rw [f2, if_pos rfl, if_pos (get_lt f2)]
          simpa using hg e f2
        · rw [if_neg hjm, List.getElem?_map]
          cases es.toList[m]? with
          | none => rfl
          | some e' => simp [hjm]
      refine ⟨bm, _, _, rfl, wrO_self hlt, ⟨rfl, _, rfl, ?_, rfl, ?_⟩, ?_⟩
      · rw [hmod (fun e => (e.born, e.key)) (e.born, kv) (fun e' he' => by rw [f2] at he'; cases he'; rfl), hks']
        apply List.ext_getElem?
        intro m
        rw [List.getElem?_set]
        by_cases hjm : j = m
        · subst hjm
          rw [if_pos rfl, ix_map hks' f2, if_pos (get_lt (ix_map hks' f2)), f3]
        · rw [if_neg hjm]
      · intro e' he'
        obtain ⟨m, hm⟩ := List.getElem?_of_mem he'
        simp only [Array.toList_modify, List.getElem?_modify] at hm
        cases hem : es.toList[m]? with
        | none => rw [hem] at hm; simp at hm
        | some e2 =>
          rw [hem] at hm
          have hb2 := hold e2 (List.mem_of_getElem? hem)
          by_cases hjm : j = m
          · simp [hjm] at hm; rw [← hm]; exact hb2
          · simp [hjm] at hm; rw [← hm]; exact hb2
      · rw [hmod (·.val) (a.eval y) (fun e' _ => rfl)]
        exact RelL.set j (hvs.ext E) (ry.ext E)
end
/-! ### through a map -/
section
variable {P : Program} {G : List (Nat × Value)} {A : List AO} {T : List (Nat × AV)} {Kk : AV → List AO → Prop}
theorem aact_range {t kt et : TypeId} {x : Operand} {tok off bm clock : Nat} {ks : List (Nat × Value)} {vs : List AV}
    (hx : ev T x = .ptr tok off) (ho : A[tok]? = some (.mapo (.map bm clock ks) vs)) (ht : P.underlying t = some (.map kt et))
    (h : Kk (.ptr A.length 0) (A ++ [.mapo (.iter bm clock [] clock) []])) : AAct P G A T (.range t x) Kk := by
  refine ⟨?_⟩
  rintro c a ⟨dst, op, type, pos, after, guard⟩ H hA hG rfl hT
  have rx := hT x (by simp [Op.operands])
  rw [hx] at rx
  subst hA
  obtain ⟨e1, hr, es, hb, hks', hvs, hold⟩ := map_at H ho rx
  have hn : (c.newO (.mapIter (some bm) clock #[] clock) (.mapo (.iter bm clock [] clock) [])).A[c.A.length]? = some (.mapo (.iter bm clock [] clock) []) := newO_A_new
  refine ⟨c.newO (.mapIter (some bm) clock #[] clock) (.mapo (.iter bm clock [] clock) []), .value (.pointer (some ⟨c.w.heap.size, 0, none⟩)), _, .ptr c.A.length 0, ?_, .inl rfl, ext_newO H _ _, hr_newO H ?_, rel_map_ptr (b := c.w.heap.size) hn newO_ρ_new, h⟩
  · simp [execOp, Instr.range, e1, run_underlying ht, MapKept.run_getObj_map hb, newObj, Sem.run, Result.andThen]; rfl
  · exact ⟨c.w.heap.size, _, [], rfl, newO_heap_new, ⟨rfl, rfl, Nat.le_refl _⟩, by unfold RelL; rfl⟩
/-- what the state knows of one that goes through a map -/
theorem iter_at {c : Cx} (H : HR c) {tok off bm since last : Nat} {seen : List Nat} {vs : List AV} {v : Value} (h0 : c.A[tok]? = some (.mapo (.iter bm since seen last) vs)) (hr : Rel c (.ptr tok off) v) :
    ∃ b, v = .pointer (some ⟨b, 0, none⟩) ∧ c.ρ tok = some b ∧ c.w.heap[b]? = some (.mapIter (some bm) since seen.toArray last) ∧ vs = [] ∧ since ≤ last := by
  obtain ⟨b, h1, rfl⟩ := rel_ptr_map h0 hr
  obtain ⟨b', ob, us, h2, h3, ⟨rfl, rfl, h4⟩, h5⟩ := H.obj tok _ h0
  rw [h1] at h2; cases h2
  have := RelL.length _ _ h5
  exact ⟨b, rfl, h1, h3, List.eq_nil_of_length_eq_zero (by simpa using this.symm), h4⟩
theorem run_setObj_iter {w : World} {r : Nat} {m : Option Nat} {x : Nat} {s : Array Nat} {y : Nat} (o : Obj) (hb : w.heap[r]? = some (.mapIter m x s y)) : (setObj r o).run P w = .ok () { w with heap := w.heap.setIfInBounds r o } := by
  simp [setObj, Sem.run, hb]
theorem run_getObj_iter {w : World} {r : Nat} {m : Option Nat} {x : Nat} {s : Array Nat} {y : Nat} (hb : w.heap[r]? = some (.mapIter m x s y)) : (getObj r).run P w = .ok (.mapIter m x s y) w := by
  simp [getObj, Sem.run, hb]
theorem run_next_at (w : World) (ty : TypeId) (ri bm since c0 : Nat) (seen : Array Nat) (es : Array MapEntry) (clock : Nat) (hi : w.heap[ri]? = some (.mapIter (some bm) since seen c0)) (hb : w.heap[bm]? = some (.map es clock))
    (hold : ∀ x ∈ es.toList, x.born < since) (hsc : since ≤ c0) :
    ((∀ e ∈ es.toList, seen.contains e.born = true) ∧ (Instr.next (.pointer (some ⟨ri, 0, none⟩)) false ty).run P w = .ok (.tuple #[.bool false]) w) ∨
    ∃ e ∈ es.toList, seen.contains e.born = false ∧ ∃ w1 : World, w1.heap = w.heap ∧ WSame w w1 ∧
      (Instr.next (.pointer (some ⟨ri, 0, none⟩)) false ty).run P w = .ok (.tuple #[.bool true, e.key, e.val]) { w1 with heap := w1.heap.setIfInBounds ri (.mapIter (some bm) since (seen.push e.born) clock) } := by
  have hlt := some_lt hb
  simp only [Instr.next, Sem.run_bind, run_getObj_iter hi, MapKept.run_getObj_map hb, Result.andThen_ok, next_test_false seen es since c0 hold hsc, Bool.false_eq_true, if_false]
  have hmem : ∀ x ∈ (Array.filter (fun e => !seen.contains e.born) es).toList, x ∈ es.toList ∧ seen.contains x.born = false := fun x hx => by
    have := Array.mem_filter.1 (Array.mem_toList_iff.1 hx)
    exact ⟨Array.mem_toList_iff.2 this.1, by simpa using this.2⟩
  have hall : (Array.filter (fun e => !seen.contains e.born) es).size = 0 → ∀ e ∈ es.toList, seen.contains e.born = true := fun h0 e he => by
    cases hc : seen.contains e.born with
    | true => rfl
    | false =>
      have : e ∈ Array.filter (fun e => !seen.contains e.born) es := Array.mem_filter.2 ⟨Array.mem_toList_iff.1 he, by simp only [hc, Bool.not_false]⟩
      rw [Array.eq_empty_of_size_eq_zero h0] at this
      simp at this
  generalize Array.filter (fun e => !seen.contains e.born) es = L at hmem hall ⊢
  have e1 : L.filter (fun x => decide (x.born < since)) = L := Array.filter_eq_self.2 (fun x hx => by simpa using hold x (hmem x (by simpa using hx)).1)
  have e2 : L.filter (fun x => decide (x.born ≥ since)) = #[] := by
    rw [Array.filter_eq_empty_iff]
    intro x hx
    have := hold x (hmem x (by simpa using hx)).1
    simp
    omega
  simp only [e1, e2, Array.append_empty]
  by_cases h0 : L.size = 0
  · left
    have hL : L = #[] := Array.eq_empty_of_size_eq_zero h0
    refine ⟨hall h0, ?_⟩
    subst hL
    simp [choose, Sem.run, Question.forced]
  · right
    have hne : L.isEmpty = false := by simp [Array.isEmpty, h0]
    simp only [hne, Bool.false_eq_true, if_false, Array.empty_append, Array.size_map]
    have hch : ∃ (j : Nat) (w1 : World), j < L.size ∧ w1.heap = w.heap ∧ WSame w w1 ∧ (choose (Question.mapNext L.size)).run P w = .ok j w1 := by
      by_cases hf : L.size ≤ 1
      · exact ⟨0, w, by omega, rfl, WSame.refl _, by simp [choose, Sem.run, Question.forced, hf]⟩
      · exact ⟨_, { w with drawn := w.drawn + 1 }, Nat.mod_lt _ (by omega), rfl, ⟨rfl, rfl, rfl⟩, by
          simp only [choose, Sem.run, Question.forced, decide_eq_true_eq, hf, if_false, Question.cut]
          rfl⟩
    obtain ⟨j, w1, hj, hh, hs, hrun⟩ := hch
    have hm := hmem L[j] (by simp)
    refine ⟨L[j], hm.1, hm.2, w1, hh, hs, ?_⟩
    have hset := run_setObj_iter (P := P) (w := w1) (.mapIter (some bm) since (seen.push L[j].born) clock) (by rw [hh]; exact hi)
    simp only [hrun, Result.andThen_ok, Array.getElem?_map, Array.getElem?_eq_getElem hj, Option.map_some, Sem.run_bind, hset, Sem.run_pure]
theorem aact_next {x : Operand} {tok m off bm since clock last : Nat} {seen : List Nat} {ks : List (Nat × Value)} {vs us : List AV}
    (hx : ev T x = .ptr tok off) (hi : A[tok]? = some (.mapo (.iter bm since seen last) us)) (ho : A[m]? = some (.mapo (.map bm clock ks) vs)) (hold : ∀ p ∈ ks, p.1 < since) (hsc : since ≤ clock)
    (h1 : (∀ p ∈ ks, p.1 ∈ seen) → Kk (.tup [.fz .bool false]) A)
    (h2 : ∀ p ∈ ks, p.1 ∉ seen → Kk (.tup [.fz .bool true, .unk, .unk]) (A.set tok (.mapo (.iter bm since (seen ++ [p.1]) clock) []))) : AAct P G A T (.next x false) Kk := by
  refine ⟨?_⟩
  rintro c a ⟨dst, op, type, pos, after, guard⟩ H hA hG rfl hT
  have rx := hT x (by simp [Op.operands])
  rw [hx] at rx
  subst hA
  obtain ⟨ri, e1, hr, hib, _, hsl⟩ := iter_at H hi rx
  obtain ⟨b, ob, ws, q1, q2, q3, q4⟩ := H.obj m _ ho
  obtain ⟨rfl, es, rfl, k1, k3, k2⟩ := mok_map q3
  have hold' : ∀ e ∈ es.toList, e.born < since := fun e he => hold (e.born, e.key) (by rw [← k1]; exact List.mem_map.2 ⟨e, he, rfl⟩)
  rcases run_next_at (P := P) c.w type ri b since last seen.toArray es clock hib q2 hold' hsl with ⟨f1, f2⟩ | ⟨e, he, f1, w1, f2, f3, f4⟩
  · refine ⟨c, .value (.tuple #[.bool false]), _, .tup [.fz .bool false], by simp only [execOp, e1, Sem.run_bind, f2, Result.andThen_ok, Sem.run_pure], .inl rfl, Ext.refl c, H, ?_, h1 fun p hp => ?_⟩
    · unfold Rel; exact ⟨[.bool false], rfl, by unfold RelL; exact ⟨_, _, rfl, rel_bool.2 rfl, by unfold RelL; rfl⟩⟩
    · obtain ⟨e, he, rfl⟩ := mem_map_of k1 hp
      simpa using f1 e he
  · obtain ⟨E0, H0⟩ := ext_draw H w1 f2 f3
    have hi' : ({ c with w := w1 } : Cx).A[tok]? = some (.mapo (.iter b since seen last) us) := hi
    have E1 := ext_wrO (ob := .mapIter (some b) since (seen.toArray.push e.born) clock) (j := .iter b since (seen ++ [e.born]) clock) (us := []) H0 hi' rfl hr
    refine ⟨_, .value _, _, .tup [.fz .bool true, .unk, .unk], by simp only [execOp, e1, Sem.run_bind, f4, Result.andThen_ok, Sem.run_pure]; rfl, .inl rfl, E0.trans E1, hr_wrO H0 hi' rfl hr ?_, ?_, h2 (e.born, e.key) (by rw [← k1]; exact List.mem_map.2 ⟨e, he, rfl⟩) (by simpa using f1)⟩
    · refine ⟨ri, _, [], rfl, wrO_self (by show ri < w1.heap.size; rw [f2]; exact some_lt hib), ⟨by simp, rfl, hsc⟩, by unfold RelL; rfl⟩
    · unfold Rel; exact ⟨[.bool true, e.key, e.val], rfl, by unfold RelL; exact ⟨_, _, rfl, rel_bool.2 rfl, by unfold RelL; exact ⟨_, _, rfl, rel_unk, by unfold RelL; exact ⟨_, _, rfl, rel_unk, by unfold RelL; rfl⟩⟩⟩⟩
theorem aact_entry {x : Operand} {tok m off bm since clock b0 : Nat} {s : List Nat} {ks : List (Nat × Value)} {vs us : List AV} {kf : Value → AV}
    (hx : ev T x = .ptr tok off) (hi : A[tok]? = some (.mapo (.iter bm since (s ++ [b0]) clock) us)) (ho : A[m]? = some (.mapo (.map bm clock ks) vs)) (hin : ∃ p ∈ ks, p.1 = b0)
    (hkf : ∀ p ∈ ks, ∀ c : Cx, Rel c (kf p.2) p.2)
    (h : ∀ (j : Nat) (p : Nat × Value) (a : AV), ks[j]? = some p → p.1 = b0 → vs[j]? = some a → Kk (.tup [kf p.2, a]) A) : AAct P G A T (.entry x) Kk := by
  refine ⟨?_⟩
  rintro c a ⟨dst, op, type, pos, after, guard⟩ H hA hG rfl hT
  have rx := hT x (by simp [Op.operands])
  rw [hx] at rx
  subst hA
  obtain ⟨ri, e1, hr, hib, _, hsl⟩ := iter_at H hi rx
  obtain ⟨b, ob, ws, q1, q2, q3, q4⟩ := H.obj m _ ho
  obtain ⟨rfl, es, rfl, k1, rfl, k2⟩ := mok_map q3
  have hback : (s ++ [b0]).toArray.back? = some b0 := by simp
  obtain ⟨e, hf⟩ : ∃ e, es.find? (fun e => e.born == b0) = some e := by
    cases hf : es.find? (fun e => e.born == b0) with
    | some e => exact ⟨e, rfl⟩
    | none =>
      obtain ⟨p, hp, hpb⟩ := hin
      obtain ⟨e, he, rfl⟩ := mem_map_of k1 hp
      have := Array.find?_eq_none.1 hf e (by simpa using he)
      simp at this
      exact absurd hpb this
  have heb : e.born = b0 := by have := Array.find?_some hf; simpa using this
  have hem : e ∈ es.toList := by have := Array.mem_of_find?_eq_some hf; simpa using this
  obtain ⟨j, hj⟩ := List.getElem?_of_mem hem
  obtain ⟨av, g1, g2⟩ := q4.get' (i := j) (v := e.val) (by rw [List.getElem?_map, hj]; rfl)
  refine ⟨c, .value (.tuple #[e.key, e.val]), _, .tup [kf e.key, av], ?_, .inl rfl, Ext.refl c, H, ?_, h j (e.born, e.key) av (ix_map k1 hj) heb g1⟩
  · simp only [execOp, e1, Sem.run_bind, Instr.entry, run_getObj_iter hib, Result.andThen_ok, hback, MapKept.run_getObj_map q2, bne_self_eq_false, Bool.false_eq_true, if_false, hf, Sem.run_pure]
  · unfold Rel; exact ⟨[e.key, e.val], rfl, by unfold RelL; exact ⟨_, _, rfl, hkf (e.born, e.key) (by rw [← k1]; exact List.mem_map.2 ⟨e, hem, rfl⟩) c, by unfold RelL; exact ⟨_, _, rfl, g2, by unfold RelL; rfl⟩⟩⟩
end
end Go.Ab
/-
  Passes between basins, plainly.
-/
namespace Go.Proofs.YtgjjooophigkoaaGreatDoor
open Go Go.Ab
namespace Ps
/-- an entry: its stamp, its key, its value -/
abbrev En := Nat × (Int × Int) × Int
section
variable (n : Nat) (t : Nat → Nat → Prop) (b hg : Nat → Int)
/-- a pair of cells that counts for two basins -/
def Pr (x y : Int) (i k : Nat) : Prop := i < n ∧ k < n ∧ t i k ∧ b i = x ∧ b k = y
/-- the lowest pass, of pairs that have come -/
def Low (Q : Nat → Nat → Prop) (x y v : Int) : Prop := (∃ i k, Q i k ∧ b i = x ∧ b k = y ∧ max (hg i) (hg k) = v) ∧ ∀ i k, Q i k → b i = x → b k = y → v ≤ max (hg i) (hg k)
/-- what the map holds when the pairs Q have come -/
structure PM (Q : Nat → Nat → Prop) (S : List En) : Prop where
  nd : (S.map (·.2.1)).Nodup
  low : ∀ e ∈ S, e.2.1.1 < e.2.1.2 ∧ Low b hg Q e.2.1.1 e.2.1.2 e.2.2
  all : ∀ i k, Q i k → b i < b k → ∃ e ∈ S, e.2.1 = (b i, b k)
end
variable {n : Nat} {t : Nat → Nat → Prop} {b hg : Nat → Int} {Q Q' : Nat → Nat → Prop} {S : List En}
theorem PM.start : PM b hg (fun _ _ => False) [] := ⟨List.nodup_nil, fun e he => by simp at he, fun _ _ h => h.elim⟩
theorem PM.congr (h : PM b hg Q S) (he : ∀ i k, Q i k ↔ Q' i k) : PM b hg Q' S := by
  have : Q = Q' := by funext i k; exact propext (he i k)
  subst this; exact h
theorem Low.more {x y v : Int} (h : Low b hg Q x y v) {i k : Nat} (hn : b i = x → b k = y → v ≤ max (hg i) (hg k)) : Low b hg (fun i' k' => Q i' k' ∨ (i' = i ∧ k' = k)) x y v := by
  obtain ⟨⟨i0, k0, h1, h2, h3, h4⟩, h5⟩ := h
  refine ⟨⟨i0, k0, .inl h1, h2, h3, h4⟩, fun i' k' hq hx hy => ?_⟩
  rcases hq with hq | ⟨rfl, rfl⟩
  · exact h5 i' k' hq hx hy
  · exact hn hx hy
theorem PM.skip (h : PM b hg Q S) {i k : Nat} (hb : b k ≤ b i) : PM b hg (fun i' k' => Q i' k' ∨ (i' = i ∧ k' = k)) S := by
  refine ⟨h.nd, fun e he => ⟨(h.low e he).1, (h.low e he).2.more fun hx hy => ?_⟩, fun i' k' hq hlt => ?_⟩
  · have := (h.low e he).1
    omega
  · rcases hq with hq | ⟨rfl, rfl⟩
    · exact h.all i' k' hq hlt
    · omega
theorem PM.new (h : PM b hg Q S) {i k : Nat} (hb : b i < b k) (hno : ∀ e ∈ S, e.2.1 ≠ (b i, b k)) (c : Nat) :
    PM b hg (fun i' k' => Q i' k' ∨ (i' = i ∧ k' = k)) (S ++ [(c, (b i, b k), max (hg i) (hg k))]) := by
  refine ⟨?_, fun e he => ?_, fun i' k' hq hlt => ?_⟩
  · rw [List.map_append, List.nodup_append]
    refine ⟨h.nd, by simp, fun a ha a' ha' => ?_⟩
    simp at ha'
    subst ha'
    obtain ⟨e, he, rfl⟩ := List.mem_map.1 ha
    exact hno e he
  · rcases List.mem_append.1 he with he | he
    · refine ⟨(h.low e he).1, (h.low e he).2.more fun hx hy => ?_⟩
      exact absurd (Prod.ext hx.symm hy.symm) (hno e he)
    · simp at he; subst he
      refine ⟨hb, ⟨i, k, .inr ⟨rfl, rfl⟩, rfl, rfl, rfl⟩, fun i' k' hq hx hy => ?_⟩
      rcases hq with hq | ⟨rfl, rfl⟩
      · obtain ⟨e, he, hee⟩ := h.all i' k' hq (by simp only at hx hy; omega)
        exact absurd (by rw [hee, hx, hy]) (hno e he)
      · exact Int.le_refl _
  · rcases hq with hq | ⟨rfl, rfl⟩
    · obtain ⟨e, he, hee⟩ := h.all i' k' hq hlt
      exact ⟨e, List.mem_append_left _ he, hee⟩
    · exact ⟨_, List.mem_append_right _ (List.mem_singleton.2 rfl), rfl⟩
theorem key_inj (h : (S.map (·.2.1)).Nodup) {e e' : En} (he : e ∈ S) (he' : e' ∈ S) (hk : e.2.1 = e'.2.1) : e = e' := by
  obtain ⟨i, hi, rfl⟩ := List.getElem_of_mem he
  obtain ⟨j, hj, rfl⟩ := List.getElem_of_mem he'
  have : i = j := (List.getElem_inj (h₀ := by simpa using hi) (h₁ := by simpa using hj) h).1 (by simpa using hk)
  subst this; rfl
theorem PM.keep (h : PM b hg Q S) {i k : Nat} {e : En} (he : e ∈ S) (hek : e.2.1 = (b i, b k)) (hv : e.2.2 ≤ max (hg i) (hg k)) : PM b hg (fun i' k' => Q i' k' ∨ (i' = i ∧ k' = k)) S := by
  refine ⟨h.nd, fun e' he' => ⟨(h.low e' he').1, (h.low e' he').2.more fun hx hy => ?_⟩, fun i' k' hq hlt => ?_⟩
  · have : e' = e := key_inj h.nd he' he (by rw [hek, hx, hy])
    rw [this]; exact hv
  · rcases hq with hq | ⟨rfl, rfl⟩
    · exact h.all i' k' hq hlt
    · exact ⟨e, he, hek⟩
theorem set_key {j : Nat} {e : En} (hj : S[j]? = some e) (v : Int) : (S.set j (e.1, e.2.1, v)).map (·.2.1) = S.map (·.2.1) := by
  apply List.ext_getElem?
  intro m
  simp only [List.getElem?_map, List.getElem?_set]
  by_cases hjm : j = m
  · subst hjm; rw [if_pos rfl, if_pos (get_lt hj), hj]; rfl
  · rw [if_neg hjm]
theorem set_born {j : Nat} {e : En} (hj : S[j]? = some e) (v : Int) : (S.set j (e.1, e.2.1, v)).map (·.1) = S.map (·.1) := by
  apply List.ext_getElem?
  intro m
  simp only [List.getElem?_map, List.getElem?_set]
  by_cases hjm : j = m
  · subst hjm; rw [if_pos rfl, if_pos (get_lt hj), hj]; rfl
  · rw [if_neg hjm]
theorem PM.lower (h : PM b hg Q S) {i k j : Nat} {e : En} (hj : S[j]? = some e) (hek : e.2.1 = (b i, b k)) (hv : max (hg i) (hg k) < e.2.2) :
    PM b hg (fun i' k' => Q i' k' ∨ (i' = i ∧ k' = k)) (S.set j (e.1, e.2.1, max (hg i) (hg k))) := by
  have hmem := List.mem_of_getElem? hj
  obtain ⟨hlt, ⟨⟨i0, k0, p1, p2, p3, p4⟩, p5⟩⟩ := h.low e hmem
  rw [hek] at hlt p2 p3 p5
  simp only at hlt p2 p3 p5
  refine ⟨by rw [set_key hj]; exact h.nd, fun e' he' => ?_, fun i' k' hq hlt' => ?_⟩
  · rcases List.mem_or_eq_of_mem_set he' with he' | rfl
    · -- another entry, or the old one: that is gone
      by_cases hkk : e'.2.1 = e.2.1
      · exfalso
        have he2 : e' = e := key_inj h.nd he' hmem hkk
        subst he2
        obtain ⟨m, hm⟩ := List.getElem?_of_mem ‹e' ∈ S.set j _›
        rw [List.getElem?_set] at hm
        by_cases hjm : j = m
        · rw [if_pos hjm, if_pos (get_lt hj)] at hm
          simp only [Option.some.injEq] at hm
          have := congrArg (fun z : En => z.2.2) hm
          simp only at this
          omega
        · rw [if_neg hjm] at hm
          have h1 : (S.map (·.2.1))[j]? = (S.map (·.2.1))[m]? := by rw [List.getElem?_map, List.getElem?_map, hj, hm]
          exact hjm ((List.getElem?_inj (by simpa using get_lt hj) h.nd).1 h1)
      · refine ⟨(h.low e' he').1, (h.low e' he').2.more fun hx hy => ?_⟩
        exact absurd (by rw [hek, hx, hy]) hkk
    · simp only [hek]
      refine ⟨hlt, ⟨i, k, .inr ⟨rfl, rfl⟩, rfl, rfl, rfl⟩, fun i' k' hq hx hy => ?_⟩
      rcases hq with hq | ⟨rfl, rfl⟩
      · have := p5 i' k' hq hx hy; omega
      · exact Int.le_refl _
  · have : ∃ e0 ∈ S, e0.2.1 = (b i', b k') := by
      rcases hq with hq | ⟨rfl, rfl⟩
      · exact h.all i' k' hq hlt'
      · exact ⟨e, hmem, hek⟩
    obtain ⟨e0, h0, h1⟩ := this
    have : (b i', b k') ∈ (S.set j (e.1, e.2.1, max (hg i) (hg k))).map (·.2.1) := by rw [set_key hj]; exact List.mem_map.2 ⟨e0, h0, h1⟩
    obtain ⟨e2, h2, h3⟩ := List.mem_map.1 this
    exact ⟨e2, h2, h3⟩
end Ps
end Go.Proofs.YtgjjooophigkoaaGreatDoor
/-
  Passes between basins: the list of them.
-/
namespace Go.Proofs.YtgjjooophigkoaaGreatDoor
open Go Go.Ab
namespace Ps
abbrev Pa := Int × Int × Int
def pass (e : En) : Pa := (e.2.1.1, e.2.1.2, e.2.2)
/-- one pass stands before another -/
def Bf (p q : Pa) : Prop := p.1 < q.1 ∨ (p.1 = q.1 ∧ p.2.1 < q.2.1)
/-- the list of all passes, in order -/
structure PL (b hg : Nat → Int) (Q : Nat → Nat → Prop) (L : List Pa) : Prop where
  srt : L.Pairwise Bf
  mem : ∀ x y v, (x, y, v) ∈ L ↔ x < y ∧ Low b hg Q x y v
theorem Bf.irrefl (p : Pa) : ¬ Bf p p := fun h => by unfold Bf at h; omega
theorem Bf.asymm {p q : Pa} (h : Bf p q) : ¬ Bf q p := fun h' => by unfold Bf at *; omega
variable {b hg : Nat → Int} {Q : Nat → Nat → Prop} {S : List En} {L M : List Pa}
theorem Low.uniq {x y v v' : Int} (h : Low b hg Q x y v) (h' : Low b hg Q x y v') : v = v' := by
  obtain ⟨⟨i, k, a1, a2, a3, a4⟩, a5⟩ := h
  obtain ⟨⟨i', k', c1, c2, c3, c4⟩, c5⟩ := h'
  have := a5 i' k' c1 c2 c3
  have := c5 i k a1 a2 a3
  omega
/-- lists in order with the same members are one -/
theorem srt_uniq : ∀ (L M : List Pa), L.Pairwise Bf → M.Pairwise Bf → (∀ p, p ∈ L ↔ p ∈ M) → L = M
  | [], [], _, _, _ => rfl
  | [], q :: M, _, _, h => by have := (h q).2 (List.mem_cons_self ..); simp at this
  | p :: L, [], _, _, h => by have := (h p).1 (List.mem_cons_self ..); simp at this
  | p :: L, q :: M, hL, hM, h => by
    obtain ⟨l1, l2⟩ := List.pairwise_cons.1 hL
    obtain ⟨m1, m2⟩ := List.pairwise_cons.1 hM
    have hpq : p = q := by
      rcases List.mem_cons.1 ((h p).1 (List.mem_cons_self ..)) with e | hp
      · exact e
      · rcases List.mem_cons.1 ((h q).2 (List.mem_cons_self ..)) with e | hq
        · exact e.symm
        · exact absurd (m1 p hp) (Bf.asymm (l1 q hq))
    subst hpq
    refine congrArg (p :: ·) (srt_uniq L M l2 m2 fun r => ⟨fun hr => ?_, fun hr => ?_⟩)
    · rcases List.mem_cons.1 ((h r).1 (List.mem_cons_of_mem _ hr)) with e | h'
      · subst e; exact absurd (l1 r hr) (Bf.irrefl r)
      · exact h'
    · rcases List.mem_cons.1 ((h r).2 (List.mem_cons_of_mem _ hr)) with e | h'
      · subst e; exact absurd (m1 r hr) (Bf.irrefl r)
      · exact h'
theorem PL.uniq (h : PL b hg Q L) (h' : PL b hg Q M) : L = M := srt_uniq L M h.srt h'.srt fun p => by
  obtain ⟨x, y, v⟩ := p
  rw [h.mem, h'.mem]
/-- what the map holds, put in order -/
theorem PM.list (h : PM b hg Q S) (hp : L.Perm (S.map pass)) (hs : L.Pairwise fun p q => ¬ Bf q p) : PL b hg Q L := by
  have hkey : (L.map fun p => (p.1, p.2.1)).Nodup := by
    have h1 : (L.map fun p => (p.1, p.2.1)).Perm (S.map (·.2.1)) := by
      have := hp.map (fun p : Pa => (p.1, p.2.1))
      rw [List.map_map] at this
      exact this
    exact h1.nodup_iff.2 h.nd
  refine ⟨?_, fun x y v => ⟨fun hm => ?_, fun ⟨hxy, hl⟩ => ?_⟩⟩
  · have hk : L.Pairwise fun p q => (p.1, p.2.1) ≠ (q.1, q.2.1) := by
      have := hkey
      unfold List.Nodup at this
      rwa [List.pairwise_map] at this
    refine (hs.and hk).imp fun {p q} hpq => ?_
    obtain ⟨h1, h2⟩ := hpq
    unfold Bf at *
    have : ¬ (p.1 = q.1 ∧ p.2.1 = q.2.1) := fun e => h2 (by rw [e.1, e.2])
    omega
  · obtain ⟨e, he, hee⟩ := List.mem_map.1 (hp.mem_iff.1 hm)
    have := h.low e he
    unfold pass at hee
    cases hee
    exact this
  · obtain ⟨⟨i, k, a1, a2, a3, a4⟩, a5⟩ := hl
    obtain ⟨e, he, hee⟩ := h.all i k a1 (by omega)
    have hlow := (h.low e he).2
    rw [hee, a2, a3] at hlow
    have hv : e.2.2 = v := Low.uniq hlow ⟨⟨i, k, a1, a2, a3, a4⟩, a5⟩
    refine hp.mem_iff.2 (List.mem_map.2 ⟨e, he, ?_⟩)
    unfold pass
    rw [hee, a2, a3, hv]
/-- going through the map: what has come -/
structure RG (S es : List En) (seen : List Nat) (out : List Pa) : Prop where
  sub : ∀ e ∈ es, e ∈ S
  nd : es.Nodup
  seen : seen = es.map (·.1)
  out : out = es.map pass
theorem RG.start (S : List En) : RG S [] [] [] := ⟨fun e h => by simp at h, List.nodup_nil, rfl, rfl⟩
theorem RG.next {es : List En} {seen : List Nat} {out : List Pa} (h : RG S es seen out) {e : En} (he : e ∈ S) (hn : e.1 ∉ seen) : RG S (es ++ [e]) (seen ++ [e.1]) (out ++ [pass e]) := by
  refine ⟨fun e' he' => ?_, ?_, by rw [h.seen]; simp, by rw [h.out]; simp⟩
  · rcases List.mem_append.1 he' with h1 | h1
    · exact h.sub e' h1
    · simp at h1; subst h1; exact he
  · rw [List.nodup_append]
    refine ⟨h.nd, by simp, fun x hx y hy => ?_⟩
    simp at hy; subst hy
    rintro rfl
    exact hn (by rw [h.seen]; exact List.mem_map.2 ⟨x, hx, rfl⟩)
theorem RG.len {es : List En} {seen : List Nat} {out : List Pa} (h : RG S es seen out) : seen.length = out.length := by rw [h.seen, h.out]; simp
theorem born_inj (h : (S.map (·.1)).Nodup) {e e' : En} (he : e ∈ S) (he' : e' ∈ S) (hk : e.1 = e'.1) : e = e' := by
  obtain ⟨i, hi, rfl⟩ := List.getElem_of_mem he
  obtain ⟨j, hj, rfl⟩ := List.getElem_of_mem he'
  have : i = j := (List.getElem_inj (h₀ := by simpa using hi) (h₁ := by simpa using hj) h).1 (by simpa using hk)
  subst this; rfl
theorem len_sub : ∀ (l m : List En), l.Nodup → (∀ e ∈ l, e ∈ m) → l.length ≤ m.length
  | [], _, _, _ => Nat.zero_le _
  | e :: l, m, hn, hs => by
    obtain ⟨h1, h2⟩ := List.nodup_cons.1 hn
    have hm := hs e (List.mem_cons_self ..)
    have := len_sub l (m.erase e) h2 fun x hx => (List.mem_erase_of_ne (fun h : x = e => h1 (by rw [← h]; exact hx))).2 (hs x (List.mem_cons_of_mem _ hx))
    rw [List.length_erase_of_mem hm] at this
    have h3 := List.length_pos_of_mem hm
    simp only [List.length_cons]; omega
theorem RG.le {es : List En} {seen : List Nat} {out : List Pa} (h : RG S es seen out) : out.length ≤ S.length := by
  rw [h.out, List.length_map]
  exact len_sub es S h.nd h.sub
theorem RG.done {es : List En} {seen : List Nat} {out : List Pa} (h : RG S es seen out) (hS : (S.map (·.1)).Nodup) (hall : ∀ e ∈ S, e.1 ∈ seen) : out.Perm (S.map pass) := by
  rw [h.out]
  refine List.Perm.map _ ?_
  refine (List.perm_ext_iff_of_nodup h.nd ?_).2 fun e => ⟨h.sub e, fun he => ?_⟩
  · unfold List.Nodup at hS ⊢
    rw [List.pairwise_map] at hS
    exact hS.imp fun hab e => hab (by rw [e])
  · have := hall e he
    rw [h.seen] at this
    obtain ⟨e', he', hk⟩ := List.mem_map.1 this
    have : e' = e := born_inj hS (h.sub e' he') he hk
    exact this ▸ he'
end Ps
end Go.Proofs.YtgjjooophigkoaaGreatDoor
/-
  Arguments read again behind a call that leaves old memory alone; a slice of points opened.
-/
namespace Go.Proofs.YtgjjooophigkoaaGreatDoor
open Go Go.ChangeShapes Go.WideShapes Go.ChangeAt Go.RowKit
theorem trodAll_below {H : Type} {enc : TypeId × Value → H} {P : Program} (hl : laidOutB P = true) {W W' : World} (hb : Below W.heap.size W W') :
    ∀ (ts : List TypeId) (vs : List Value) (ds : List (DataW H)) (ps : List MemPlace), (∀ t ∈ ts, P.readableRec t = true ∧ t < P.types.size) →
      DataW.TrodAll enc P W 0 (fun _ => true) true ts vs ds ps → (∀ x ∈ ps, x.block < W.heap.size) →
      DataW.TrodAll enc P W' 0 (fun b => decide (b < W.heap.size)) true ts vs ds ps
  | [], [], [], ps, _, h, _ => h
  | [], [], _ :: _, _, _, h, _ => h.elim
  | [], _ :: _, _, _, _, h, _ => h.elim
  | _ :: _, [], _, _, _, h, _ => h.elim
  | _ :: _, _ :: _, [], _, _, h, _ => h.elim
  | t :: ts, v :: vs, d :: ds, ps, hr, h, hlt => by
    obtain ⟨p, q, h1, h2, rfl⟩ := h
    refine ⟨p, q, Below.trod hl (hr t (List.mem_cons_self ..)).1 (hr t (List.mem_cons_self ..)).2 h1 hb (fun x hx => hlt x (List.mem_append.2 (.inl hx))), ?_, rfl⟩
    exact trodAll_below hl hb ts vs ds q (fun t ht => hr t (List.mem_cons_of_mem _ ht)) h2 (fun x hx => hlt x (List.mem_append.2 (.inr hx)))
end Go.Proofs.YtgjjooophigkoaaGreatDoor
/-
  Maps of this program: their keys.
-/
namespace Go.Proofs.YtgjjooophigkoaaGreatDoor
open Go Go.Ab Go.Maps
set_option maxRecDepth 100000
/-- a key of two numbers, a key of one -/
def kv2 (x y : Int) : Value := .agg #[.int .i64 x, .int .i64 y]
def kv1 (x : Int) : Value := .int .i64 x
theorem kv2_inj {x y x' y' : Int} : kv2 x y = kv2 x' y' ↔ x = x' ∧ y = y' := by simp [kv2]
theorem kv1_inj {x x' : Int} : kv1 x = kv1 x' ↔ x = x' := by simp [kv1]
theorem wf64 {x : Int} (h : -9223372036854775808 ≤ x ∧ x ≤ 9223372036854775807) : (Lit.int .i64 x).wf = true := by
  simp [Lit.wf, IntKind.min, IntKind.max, IntKind.signed, IntKind.bits]; omega
theorem arr2 : WideMaps.ArrKey Tryz.prog 122 3 2 := by
  constructor <;> first | exact Tryz.underlying122 | kernel_rfl
theorem keyed2 : Keyed Tryz.prog 122 := Keyed.of_law arr2.law
theorem keyed1 : Keyed Tryz.prog 3 := int_keyed Tryz.underlying3
theorem key2_ok {x y : Int} (hx : -9223372036854775808 ≤ x ∧ x ≤ 9223372036854775807) (hy : -9223372036854775808 ≤ y ∧ y ≤ 9223372036854775807) : ∃ l, keyOf Tryz.prog 122 (kv2 x y) = some l :=
  ⟨_, WideMaps.keyOf_pair arr2 Tryz.underlying3 ⟨_, rfl⟩ (wf64 hx) (wf64 hy)⟩
theorem key1_ok {x : Int} (hx : -9223372036854775808 ≤ x ∧ x ≤ 9223372036854775807) : ∃ l, keyOf Tryz.prog 3 (kv1 x) = some l := ⟨_, keyOf_int_mk Tryz.underlying3 (wf64 hx)⟩
theorem rel_kv1 {x : Int} : ∀ (c : Cx) v, Rel c (.fz (.int .i64) x) v → v = kv1 x := fun _ _ h => rel_int.1 h
theorem rel_kv2 {x y : Int} : ∀ (c : Cx) v, Rel c (.agg [.fz (.int .i64) x, .fz (.int .i64) y]) v → v = kv2 x y := fun _ _ h => by
  unfold Rel at h
  obtain ⟨vs, rfl, h⟩ := h
  unfold RelL at h
  obtain ⟨a, r, rfl, h1, h⟩ := h
  unfold RelL at h
  obtain ⟨b, r, rfl, h2, h⟩ := h
  unfold RelL at h
  subst h
  rw [rel_int.1 h1, rel_int.1 h2]; rfl
theorem zero_int (c : Cx) : ∃ zv, (zeroValue 3).run Tryz.prog c.w = .ok zv c.w ∧ Rel c (.fz (.int .i64) (0 : Int)) zv := ⟨.int .i64 0, by kernel_rfl, rel_int.2 rfl⟩
end Go.Proofs.YtgjjooophigkoaaGreatDoor
