/-
  Regions that draw their order: the text's order serves every order.
-/
import Derived.Test.YtidhgdipnfhoeaaDoorAc71
import Derived.StillTail
namespace Go.Ab
open Go
/-! ### what comes ahead of what -/
def bindsA (e : Edge) : Bool := Region.binds .any e
def maskOf (acc : List Nat) : List Edge → Nat
  | [] => 0
  | e :: l => match bindsA e with
    | true => (maskOf acc l ||| (1 <<< e.on)) ||| acc.getD e.on 0
    | false => maskOf acc l
def amask : List Oper → List Nat → List Nat
  | [], acc => acc
  | o :: os, acc => amask os (acc ++ [maskOf acc o.after.toList])
theorem maskOf_bit {acc : List Nat} {j : Nat} : ∀ {l : List Edge}, (maskOf acc l).testBit j = true → ∃ e ∈ l, bindsA e = true ∧ (e.on = j ∨ (acc.getD e.on 0).testBit j = true)
  | [], h => by unfold maskOf at h; simp at h
  | e :: l, h => by
    unfold maskOf at h
    split at h
    · rename_i hb
      rw [Nat.testBit_or, Nat.testBit_or] at h
      simp only [Bool.or_eq_true] at h
      rcases h with (h | h) | h
      · obtain ⟨e', h1, h2⟩ := maskOf_bit h
        exact ⟨e', List.mem_cons_of_mem _ h1, h2⟩
      · refine ⟨e, List.mem_cons_self .., hb, .inl ?_⟩
        rw [Nat.one_shiftLeft, Nat.testBit_two_pow] at h
        simpa using h
      · exact ⟨e, List.mem_cons_self .., hb, .inr h⟩
    · obtain ⟨e', h1, h2⟩ := maskOf_bit h
      exact ⟨e', List.mem_cons_of_mem _ h1, h2⟩
theorem amask_prefix : ∀ (os : List Oper) (acc : List Nat) (k : Nat), k < acc.length → (amask os acc)[k]? = acc[k]?
  | [], acc, k, _ => rfl
  | o :: os, acc, k, h => by
    unfold amask
    rw [amask_prefix os _ k (by simp; omega), List.getElem?_append_left h]
theorem amask_at : ∀ (os : List Oper) (acc : List Nat) (i : Nat) (o : Oper), os[i]? = some o → ∃ acc' : List Nat, acc'.length = acc.length + i ∧ (∀ k, k < acc'.length → (amask os acc)[k]? = acc'[k]?) ∧ (amask os acc)[acc.length + i]? = some (maskOf acc' o.after.toList)
  | [], _, _, _, h => by simp at h
  | p :: os, acc, 0, o, h => by
    simp at h; subst h
    refine ⟨acc, by simp, fun k hk => amask_prefix (p :: os) acc k hk, ?_⟩
    unfold amask
    rw [amask_prefix os _ _ (by simp)]; simp
  | p :: os, acc, i + 1, o, h => by
    unfold amask
    obtain ⟨acc', h1, h2, h3⟩ := amask_at os (acc ++ [maskOf acc p.after.toList]) i o (by simpa using h)
    simp only [List.length_append, List.length_cons, List.length_nil] at h1 h3
    exact ⟨acc', by omega, h2, by rw [← h3]; congr 1; omega⟩
def rch (M : List Nat) (j i : Nat) : Bool := (M.getD i 0).testBit j
theorem rch_step {L : List Oper} {j i : Nat} (h : rch (amask L []) j i = true) : ∃ o, L[i]? = some o ∧ ∃ e ∈ o.after.toList, bindsA e = true ∧ (e.on = j ∨ rch (amask L []) j e.on = true) := by
  unfold rch at *
  cases hi : L[i]? with
  | none =>
    have hlen : ∀ (os : List Oper) (acc : List Nat), (amask os acc).length = acc.length + os.length := by
      intro os
      induction os with
      | nil => intro acc; rfl
      | cons p os ih => intro acc; unfold amask; rw [ih]; simp; omega
    have : (amask L [])[i]? = none := by
      rw [List.getElem?_eq_none]; rw [hlen]; simp at hi ⊢; exact hi
    rw [List.getD, this] at h; simp at h
  | some o =>
    obtain ⟨acc', h1, h2, h3⟩ := amask_at L [] i o hi
    simp at h3
    rw [List.getD, h3] at h
    simp only [Option.getD_some] at h
    obtain ⟨e, k1, k2, k3⟩ := maskOf_bit h
    refine ⟨o, rfl, e, k1, k2, k3.imp id fun hb => ?_⟩
    by_cases hlt : e.on < acc'.length
    · rw [List.getD, h2 _ hlt]; exact hb
    · rw [List.getD, List.getElem?_eq_none (by omega)] at hb; simp at hb
/-! ### the checks -/
def isEff : Op → Bool
  | .alloc _ | .box _ _ | .store _ _ _ | .makeSlice _ _ _ | .buildSlice _ _ _ => true
  | .call c => match c.callee with
    | .builtin .append => true
    | .builtin _ => false
    | _ => true
  | _ => false
def tmpsOf : List Operand → List Nat
  | [] => []
  | .tmp t :: l => t :: tmpsOf l
  | _ :: l => tmpsOf l
def looksOf (L : List Oper) (o : Oper) : List Nat := (match gtmp L o with | some (t, _) => [t] | none => []) ++ tmpsOf o.op.operands.toList
def isDst (o : Oper) (t : Nat) : Bool := match o.dst with | some d => Nat.beq d t | none => false
def effsOf : List Oper → Nat → List Nat
  | [], _ => []
  | o :: os, k => match isEff o.op with
    | true => k :: effsOf os (k + 1)
    | false => effsOf os (k + 1)
/-- may op i come when k effects have come? -/
def okK (M : List Nat) (i k : Nat) : List Nat → Nat → Bool
  | [], _ => true
  | e :: es, m => (!rch M e i || Nat.blt m k) && (!rch M i e || Nat.ble k m) && okK M i k es (m + 1)
def cntE : List Nat → Nat → Nat
  | [], _ => 0
  | e :: es, i => if e < i then cntE es i + 1 else cntE es i
def pairIn (i k : Nat) : List (Nat × Nat) → Bool
  | [] => false
  | x :: X => (Nat.beq x.1 i && Nat.beq x.2 k) || pairIn i k X
def drawM (L : List Oper) (M E : List Nat) (X : List (Nat × Nat)) : Bool :=
  (List.range L.length).all fun i => match L[i]? with
    | none => false
    | some o => o.after.toList.all (fun e => !bindsA e || Nat.blt e.on i) &&
      ((List.range L.length).all fun j => match L[j]? with
        | none => false
        | some p => ((looksOf L o).all fun t => !isDst p t || Nat.beq j i || (if j < i then rch M j i else rch M i j)) &&
          (match o.dst with | some d => !isDst p d || !Nat.blt i j || rch M i j | none => true)) &&
      (if isEff o.op then E.all (fun e => !Nat.blt e i || rch M e i) && E.contains i && (match o.guard with | some _ => true | none => true)
        else (List.range (E.length + 1)).all fun k => !okK M i k E 0 || Nat.beq k (cntE E i) || pairIn i k X)
def drawB (L : List Oper) (X : List (Nat × Nat)) : Bool := drawM L (amask L []) (effsOf L 0) X
/-! ### the run, and what it notes -/
structure Rc where
  o : Oper
  T : List (Nat × AV)
  A : List AO
  v : AV
  A' : List AO
def aDraw (P : Program) (D : Tab) (G : List (Nat × Value)) (N : Nat) (L : List Oper) : List Oper → List (Nat × AV) → List AO → List Rc → (List Rc → List (Nat × AV) → List AO → Prop) → Prop
  | [], T, A, tr, Q => Q tr T A
  | o :: os, T, A, tr, Q => match o.dst with
    | some d => match Nat.blt d N with
      | true => match isEff o.op with
        | true => ∃ v0 A0, agRun P D G L A T o (fun v A' => v = v0 ∧ A' = A0) ∧ aDraw P D G N L os ((d, v0) :: T) A0 (tr ++ [⟨o, T, A, v0, A0⟩]) Q
        | false => agRun P D G L A T o fun v _ => aDraw P D G N L os ((d, v) :: T) A (tr ++ [⟨o, T, A, v, A⟩]) Q
      | false => False
    | none => match isEff o.op with
      | true => ∃ v0 A0, agRun P D G L A T o (fun v A' => v = v0 ∧ A' = A0) ∧ aDraw P D G N L os T A0 (tr ++ [⟨o, T, A, v0, A0⟩]) Q
      | false => agRun P D G L A T o fun v _ => aDraw P D G N L os T A (tr ++ [⟨o, T, A, v, A⟩]) Q
theorem aDraw_cons {P : Program} {D : Tab} {G : List (Nat × Value)} {N : Nat} {L : List Oper} {o : Oper} {os : List Oper} {T : List (Nat × AV)} {A : List AO} {tr : List Rc} {Q : List Rc → List (Nat × AV) → List AO → Prop} :
    aDraw P D G N L (o :: os) T A tr Q = (match inB N o.dst with
      | true => (match isEff o.op with
        | true => ∃ v0 A0, agRun P D G L A T o (fun v A' => v = v0 ∧ A' = A0) ∧ aDraw P D G N L os (upd o.dst v0 T) A0 (tr ++ [⟨o, T, A, v0, A0⟩]) Q
        | false => agRun P D G L A T o fun v _ => aDraw P D G N L os (upd o.dst v T) A (tr ++ [⟨o, T, A, v, A⟩]) Q)
      | false => False) := by
  obtain ⟨dst, op, type, pos, after, guard⟩ := o
  cases dst with
  | none => rfl
  | some d =>
    show (match Nat.blt d N with | true => _ | false => _) = (match Nat.blt d N with | true => _ | false => _)
    cases Nat.blt d N <;> rfl
def asL : List Rc → List AO → List (List AO)
  | [], A => [A]
  | r :: tr, A => match isEff r.o.op with
    | true => A :: asL tr r.A'
    | false => asL tr A
def extras (P : Program) (D : Tab) (G : List (Nat × Value)) (L : List Oper) (tr : List Rc) (As : List (List AO)) : List (Nat × Nat) → Prop
  | [] => True
  | x :: X => (match tr[x.1]?, As[x.2]? with
    | some r, some A => agRun P D G L A r.T r.o (fun v A' => v = r.v ∧ A' = A)
    | _, _ => False) ∧ extras P D G L tr As X
/-! ### effects whose order is open: what there is when some of them have come -/
def lkS (m : Nat) : List (Nat × List AO) → Option (List AO)
  | [] => none
  | (k, A) :: S => match Nat.beq k m with
    | true => some A
    | false => lkS m S
def fullM : List Nat → Nat
  | [] => 0
  | e :: es => (1 <<< e) ||| fullM es
def okS (M E : List Nat) (i s : Nat) : Bool := E.all fun e => (!rch M e i || s.testBit e) && (!rch M i e || !s.testBit e)
/-- the new value and the memory, seen under other names; the old names stay -/
def View (m : Nat) (v : AV) (A' : List AO) (v' : AV) (A'' : List AO) : Prop := ∃ p : List Nat, viewB p m A' A'' = true ∧ RenA p A' A''.length 0 A'' ∧ v = v'.map (nameOf p) ∧ v'.okB A''.length = true
/-- room for what comes in any order -/
def nilRows : Nat → List AO
  | 0 => []
  | n + 1 => nilRows n ++ [.row .bool []]
def aDraw2 (P : Program) (D : Tab) (G : List (Nat × Value)) (N : Nat) (L : List Oper) : List Oper → List (Nat × AV) → List AO → List Rc → (List Rc → List (Nat × AV) → List AO → Prop) → Prop
  | [], T, A, tr, Q => Q tr T A
  | o :: os, T, A, tr, Q => match inB N o.dst with
    | true => (match isEff o.op with
      | true => ∃ v0 A0, aDraw2 P D G N L os (upd o.dst v0 T) A0 (tr ++ [⟨o, T, A, v0, A0⟩]) Q
      | false => agRun P D G L A T o fun v _ => aDraw2 P D G N L os (upd o.dst v T) A (tr ++ [⟨o, T, A, v, A⟩]) Q)
    | false => False
def stOps (P : Program) (D : Tab) (G : List (Nat × Value)) (L : List Oper) (M E : List Nat) (S : List (Nat × List AO)) (s : Nat) (A : List AO) : List Rc → Nat → Prop
  | [], _ => True
  | r :: rs, i => (match okS M E i s with
    | false => True
    | true => match isEff r.o.op with
      | true => (match s.testBit i with
        | true => True
        | false => match lkS (s ||| (1 <<< i)) S with
          | some A1 => agRun P D G L A r.T r.o fun v A' => View A.length v A' r.v A1
          | none => False)
      | false => agRun P D G L A r.T r.o fun v A' => v = r.v ∧ A' = A) ∧ stOps P D G L M E S s A rs (i + 1)
def stAll (P : Program) (D : Tab) (G : List (Nat × Value)) (L : List Oper) (M E : List Nat) (S : List (Nat × List AO)) (tr : List Rc) : List (Nat × List AO) → Prop
  | [] => True
  | (s, A) :: S' => stOps P D G L M E S s A tr 0 ∧ stAll P D G L M E S tr S'
def drawM2 (L : List Oper) (M E : List Nat) : Bool :=
  (List.range L.length).all fun i => match L[i]? with
    | none => false
    | some o => o.after.toList.all (fun e => !bindsA e || Nat.blt e.on i) &&
      ((List.range L.length).all fun j => match L[j]? with
        | none => false
        | some p => ((looksOf L o).all fun t => !isDst p t || Nat.beq j i || (if j < i then rch M j i else rch M i j)) &&
          (match o.dst with | some d => !isDst p d || !Nat.blt i j || rch M i j | none => true)) &&
      (if isEff o.op then E.contains i else true)
def aRegion2 (P : Program) (D : Tab) (G : List (Nat × Value)) (N : Nat) (L : List Oper) (T : List (Nat × AV)) (A : List AO) (Q : List (Nat × AV) → List AO → Prop) : Prop :=
  drawM2 L (amask L []) (effsOf L 0) = true ∧ ∃ n, aDraw2 P D G N L L T (A ++ nilRows n) [] fun tr T' A' => ∃ S, lkS 0 S = some (A ++ nilRows n) ∧ lkS (fullM (effsOf L 0)) S = some A' ∧ stAll P D G L (amask L []) (effsOf L 0) S tr S ∧ Q T' A'
def aRegion1 (P : Program) (D : Tab) (G : List (Nat × Value)) (N : Nat) (L : List Oper) (T : List (Nat × AV)) (A : List AO) (Q : List (Nat × AV) → List AO → Prop) : Prop :=
  ∃ X, drawB L X = true ∧ aDraw P D G N L L T A [] fun tr T' A' => match X with
    | [] => Q T' A'
    | X => extras P D G L tr (asL tr A) X ∧ Q T' A'
def aRegion (P : Program) (D : Tab) (G : List (Nat × Value)) (N : Nat) (L : List Oper) (T : List (Nat × AV)) (A : List AO) (Q : List (Nat × AV) → List AO → Prop) : Prop :=
  aRegion1 P D G N L T A Q ∨ aRegion2 P D G N L T A Q
/-- the notes are in order -/
def TrOk (P : Program) (D : Tab) (G : List (Nat × Value)) (N : Nat) (L : List Oper) : List Oper → List (Nat × AV) → List AO → List Rc → List (Nat × AV) → List AO → Prop
  | [], T, A, tr, Tf, Af => tr = [] ∧ Tf = T ∧ Af = A
  | o :: os, T, A, tr, Tf, Af => ∃ v A1 tr', tr = ⟨o, T, A, v, A1⟩ :: tr' ∧ inB N o.dst = true ∧ agRun P D G L A T o (fun v' A' => v' = v ∧ A' = A1) ∧ (isEff o.op = false → A1 = A) ∧ TrOk P D G N L os (upd o.dst v T) A1 tr' Tf Af
theorem kind_pure {D : Tab} {A : List AO} {T : List (Nat × AV)} {op : Op} (h : isEff op = false) : aKind D A T op = .pure := by
  cases op <;> try rfl
  all_goals try (cases h; done)
  rename_i cl
  obtain ⟨callee, args, ats⟩ := cl
  cases callee <;> try (cases h; done)
  rename_i b
  cases b <;> first | rfl | cases h
theorem agRun_pure {P : Program} {D : Tab} {G : List (Nat × Value)} {L : List Oper} {A : List AO} {T : List (Nat × AV)} {o : Oper} {K : AV → List AO → Prop} (h : isEff o.op = false) (hr : agRun P D G L A T o K) :
    ∃ v, agRun P D G L A T o (fun v' A' => v' = v ∧ A' = A) ∧ K v A := by
  have mk : ∀ (x : AR) (K : AV → Prop), runP x K → ∃ v, runP x (fun v' => v' = v ∧ A = A) ∧ K v := by
    intro x K hx
    obtain ⟨h1, h2⟩ := runP_of hx
    refine ⟨x.2, ?_, h2⟩
    obtain ⟨C, v⟩ := x
    unfold runP
    cases C with
    | none => simp only [forceV_eq]; exact ⟨trivial, trivial⟩
    | some C => simp only [forceV_eq]; exact ⟨h1, trivial, trivial⟩
  unfold agRun at *
  cases hg : o.guard with
  | none =>
    rw [hg] at hr
    simp only at hr ⊢
    unfold aRun at *
    rw [kind_pure h] at hr
    obtain ⟨v, h1, h2⟩ := mk _ _ hr
    exact ⟨v, by rw [kind_pure h]; exact h1, h2⟩
  | some jw =>
    rw [hg] at hr
    simp only at hr ⊢
    cases hgt : gtmp L o with
    | none => rw [hgt] at hr; exact hr.elim
    | some tw =>
      obtain ⟨t, want⟩ := tw
      rw [hgt] at hr
      simp only at hr ⊢
      cases hb : guardB T t want with
      | none => rw [hb] at hr; exact hr.elim
      | some g =>
        rw [hb] at hr
        simp only at hr ⊢
        rw [kind_pure h] at hr
        obtain ⟨v, h1, h2⟩ := mk _ _ hr
        exact ⟨v, by rw [kind_pure h]; simpa [Kind.isPure] using h1, h2⟩
def TrOk2 (N : Nat) : List Oper → List (Nat × AV) → List AO → List Rc → List (Nat × AV) → List AO → Prop
  | [], T, A, tr, Tf, Af => tr = [] ∧ Tf = T ∧ Af = A
  | o :: os, T, A, tr, Tf, Af => ∃ v A1 tr', tr = ⟨o, T, A, v, A1⟩ :: tr' ∧ inB N o.dst = true ∧ TrOk2 N os (upd o.dst v T) A1 tr' Tf Af
theorem aDraw2_tr {P : Program} {D : Tab} {G : List (Nat × Value)} {N : Nat} {L : List Oper} {Q : List Rc → List (Nat × AV) → List AO → Prop} : ∀ (os : List Oper) (T : List (Nat × AV)) (A : List AO) (tr : List Rc), aDraw2 P D G N L os T A tr Q → ∃ tr' Tf Af, TrOk2 N os T A tr' Tf Af ∧ Q (tr ++ tr') Tf Af
  | [], T, A, tr, h => ⟨[], T, A, ⟨rfl, rfl, rfl⟩, by rw [List.append_nil]; exact h⟩
  | o :: os, T, A, tr, h => by
    unfold aDraw2 at h
    cases hb : inB N o.dst with
    | false => rw [hb] at h; exact h.elim
    | true =>
      rw [hb] at h
      simp only at h
      cases he : isEff o.op with
      | true =>
        rw [he] at h
        obtain ⟨v0, A0, h2⟩ := h
        obtain ⟨tr', Tf, Af, k1, k2⟩ := aDraw2_tr os _ _ _ h2
        exact ⟨_ :: tr', Tf, Af, ⟨v0, A0, tr', rfl, hb, k1⟩, by simpa using k2⟩
      | false =>
        rw [he] at h
        obtain ⟨v, h1, h2⟩ := agRun_pure he h
        obtain ⟨tr', Tf, Af, k1, k2⟩ := aDraw2_tr os _ _ _ h2
        exact ⟨_ :: tr', Tf, Af, ⟨v, A, tr', rfl, hb, k1⟩, by simpa using k2⟩
theorem aDraw_tr {P : Program} {D : Tab} {G : List (Nat × Value)} {N : Nat} {L : List Oper} {Q : List Rc → List (Nat × AV) → List AO → Prop} : ∀ (os : List Oper) (T : List (Nat × AV)) (A : List AO) (tr : List Rc), aDraw P D G N L os T A tr Q → ∃ tr' Tf Af, TrOk P D G N L os T A tr' Tf Af ∧ Q (tr ++ tr') Tf Af
  | [], T, A, tr, h => ⟨[], T, A, ⟨rfl, rfl, rfl⟩, by rw [List.append_nil]; exact h⟩
  | o :: os, T, A, tr, h => by
    rw [aDraw_cons] at h
    cases hb : inB N o.dst with
    | false => rw [hb] at h; exact h.elim
    | true =>
      rw [hb] at h
      simp only at h
      cases he : isEff o.op with
      | true =>
        rw [he] at h
        obtain ⟨v0, A0, h1, h2⟩ := h
        obtain ⟨tr', Tf, Af, k1, k2⟩ := aDraw_tr os _ _ _ h2
        refine ⟨_ :: tr', Tf, Af, ⟨v0, A0, tr', rfl, hb, h1, (fun h => by rw [he] at h; cases h), k1⟩, by simpa using k2⟩
      | false =>
        rw [he] at h
        obtain ⟨v, h1, h2⟩ := agRun_pure he h
        obtain ⟨tr', Tf, Af, k1, k2⟩ := aDraw_tr os _ _ _ h2
        exact ⟨_ :: tr', Tf, Af, ⟨v, A, tr', rfl, hb, h1, fun _ => rfl, k1⟩, by simpa using k2⟩
end Go.Ab
