/-
  Tokens under other names; ends of functions; functions.
-/
import Derived.Test.YtidhgdipnfhoeaaDoorAd1
namespace Go.Ab
open Go
def subTr (p : List Nat) (m : Nat) (T : List (Nat × AV)) : List (Nat × AV) → Prop
  | [] => True
  | [(d, v)] => lk T d = v.map (nameOf p) ∧ v.okB m = true
  | (d, v) :: T' => (lk T d = v.map (nameOf p) ∧ v.okB m = true) ∧ subTr p m T T'
theorem subTr_lk {p : List Nat} {n0 : Nat} {A' : List AO} {c : Cx} (R : RenOk n0 (nameOf p) c.A A') {T : List (Nat × AV)} {tmps : Array Value} (h : TR c T tmps) : ∀ T' : List (Nat × AV), subTr p A'.length T T' → TR (c.ren (nameOf p) A') T' tmps
  | [], _, n => by show Rel _ .unk _; exact rel_unk
  | [(d, v)], hs, n => by
    unfold lk
    by_cases hd : d = n
    · subst hd; rw [if_pos rfl]
      have hs : lk T d = v.map (nameOf p) ∧ v.okB A'.length = true := hs
      exact ren_rel R v _ hs.2 (by rw [← hs.1]; exact h d)
    · rw [if_neg hd]; exact rel_unk
  | (d, v) :: x :: T', hs, n => by
    unfold lk
    by_cases hd : d = n
    · subst hd; rw [if_pos rfl]
      exact ren_rel R v _ hs.1.2 (by rw [← hs.1.1]; exact h d)
    · rw [if_neg hd]; exact subTr_lk R h (x :: T') hs.2 n
theorem Ent.ren {n0 : Nat} {T T' : List (Nat × AV)} {A A' : List AO} (p : List Nat) (hB : renB p n0 A' = true) (hA : RenA p A A'.length 0 A') (hT : subTr p A'.length T T') : Ent n0 ⟨T, A⟩ ⟨T', A'⟩ := fun c H h hn tmps ht => by
  have h : c.A = A := h
  subst h
  have R := renOk_of hB hA
  obtain ⟨k1, k2⟩ := ren_sound H R
  exact ⟨c.ren (nameOf p) A', rfl, k1, k2, rfl, subTr_lk R ht T' hT⟩
/-! ### what comes out -/
def REnt (n0 : Nat) (r : AV) (A : List AO) (r' : AV) (A' : List AO) : Prop := ∀ c : Cx, HR c → c.A = A → n0 ≤ c.A.length → ∀ v, Rel c r v → ∃ c' : Cx, c'.w = c.w ∧ ExtN n0 c c' ∧ HR c' ∧ c'.A = A' ∧ Rel c' r' v
theorem REnt.refl (n0 : Nat) (r : AV) (A : List AO) : REnt n0 r A r A := fun c H hA hn v hv => ⟨c, rfl, ExtN.refl hn, H, hA, hv⟩
theorem REnt.trans {n0 : Nat} {r r' r'' : AV} {A A' A'' : List AO} (h : REnt n0 r A r' A') (h' : REnt n0 r' A' r'' A'') : REnt n0 r A r'' A'' := fun c H hA hn v hv => by
  obtain ⟨c1, k1, k2, k3, k4, k5⟩ := h c H hA hn v hv
  obtain ⟨c2, j1, j2, j3, j4, j5⟩ := h' c1 k3 k4 k2.le.len v k5
  exact ⟨c2, j1.trans k1, k2.trans j2, j3, j4, j5⟩
theorem REnt.ren {n0 : Nat} {r r' : AV} {A A' : List AO} (p : List Nat) (hB : renB p n0 A' = true) (hA : RenA p A A'.length 0 A') (hr : r = r'.map (nameOf p) ∧ r'.okB A'.length = true) : REnt n0 r A r' A' := fun c H h hn v hv => by
  subst h
  have R := renOk_of hB hA
  obtain ⟨k1, k2⟩ := ren_sound H R
  exact ⟨c.ren (nameOf p) A', rfl, k1, k2, rfl, ren_rel R r' v hr.2 (by rw [← hr.1]; exact hv)⟩
theorem REnt.drop {r : AV} {A : List AO} (hr : (r.map (nameOf []) = r ∧ r.okB 0 = true)) : REnt 0 r A r [] := REnt.ren [] rfl trivial ⟨hr.1.symm, hr.2⟩
/-! ### functions -/
def resVs (D : Tab) (G : List (Nat × Value)) (A : List AO) (T : List (Nat × AV)) : List ResultVar → Option Prop × List AV
  | [] => (none, [])
  | .tmp t :: l => match resVs D G A T l with
    | (C, vs) => (C, lk T t :: vs)
  | .cell a ty :: l => match aLoad D G A ty (lk T a), resVs D G A T l with
    | (C, v), (C', vs) => (andC C C', v :: vs)
def retV : List AV → AV
  | [v] => v
  | vs => .tup vs
def runL (x : Option Prop × List AV) (K : AV → Prop) : Prop := match x with
  | (none, vs) => forceL vs fun vs' => K (retV vs')
  | (some C, vs) => C ∧ forceL vs fun vs' => K (retV vs')
theorem runL_of {x : Option Prop × List AV} {K : AV → Prop} (h : runL x K) : Hold x.1 ∧ K (retV x.2) := by
  obtain ⟨C, v⟩ := x
  cases C with
  | none => unfold runL at h; simp only [forceL_eq] at h; exact ⟨trivial, h⟩
  | some C => unfold runL at h; simp only [forceL_eq] at h; exact h
def Done (E : Env) (K : AV → List AO → Prop) (r : AV) (A : List AO) : Prop := ∃ r' A', REnt E.n0 r A r' A' ∧ K r' A'
def retQ (E : Env) (rs : List ResultVar) (K : AV → List AO → Prop) : Exit → St → Prop
  | .normal, σ => runL (resVs E.D E.G σ.A σ.T rs) fun r => Done E K r σ.A
  | .ret, σ => runL (resVs E.D E.G σ.A σ.T rs) fun r => Done E K r σ.A
  | _, _ => False
def resOf (tmps : Array Value) (r : ResultVar) : Sem Value := match r with
  | .tmp t => pure (tmps.getD t undef)
  | .cell a t => do loadVar t (← asAddr (tmps.getD a undef))
theorem results_eq (fn : Func) (tmps : Array Value) : results fn tmps = (do let vs ← fn.results.mapM (resOf tmps); pure (if h : vs.size = 1 then vs[0] else .tuple vs)) := by
  unfold results
  have : (fun x => match x with
    | ResultVar.tmp t => (pure (tmps.getD t undef) : Sem Value)
    | ResultVar.cell a t => do loadVar t (← asAddr (tmps.getD a undef))) = resOf tmps := by funext x; cases x <;> rfl
  rw [← this]; rfl
theorem resVs_sound {P : Program} {D : Tab} (hD : TabOk P D) {c : Cx} (H : HR c) {T : List (Nat × AV)} {tmps : Array Value} (hT : TR c T tmps) : ∀ (rs : List ResultVar), Hold (resVs D c.G c.A T rs).1 →
    ∃ vs, (rs.mapM (resOf tmps)).run P c.w = .ok vs c.w ∧ RelL c (resVs D c.G c.A T rs).2 vs
  | [], _ => ⟨[], by simp, by unfold resVs RelL; rfl⟩
  | .tmp t :: l, h => by
    unfold resVs at h
    obtain ⟨vs, h1, h2⟩ := resVs_sound hD H hT l h
    refine ⟨tmps.getD t undef :: vs, ?_, ?_⟩
    · simp only [List.mapM_cons, Sem.run_bind, resOf, Sem.run_pure, Result.andThen_ok, h1]
    · unfold resVs RelL; exact ⟨_, _, rfl, hT t, h2⟩
  | .cell a ty :: l, h => by
    unfold resVs at h
    obtain ⟨g1, g2⟩ := andC_of h
    obtain ⟨vs, h1, h2⟩ := resVs_sound hD H hT l g2
    obtain ⟨v, k1, k2⟩ := aLoad_sound hD H (hT a) g1
    have hrun : (resOf tmps (.cell a ty)).run P c.w = .ok v c.w := by
      unfold resOf
      unfold Instr.loadAt at k1
      cases hv : tmps.getD a undef <;> rw [hv] at k1 <;> try (simp [Instr.sureAddr, stuck] at k1; done)
      rename_i p
      cases p with
      | none => simp [Instr.sureAddr, stuck] at k1
      | some p =>
        simp only [hv]
        simpa [Instr.sureAddr, asAddr] using k1
    refine ⟨v :: vs, ?_, ?_⟩
    · simp only [List.mapM_cons, Sem.run_bind, hrun, Sem.run_pure, Result.andThen_ok, h1]
    · unfold resVs RelL; exact ⟨_, _, rfl, k2, h2⟩
def zipT : List AV → Nat → List (Nat × AV)
  | [], _ => []
  | a :: l, k => (k, a) :: zipT l (k + 1)
theorem zipT_lk : ∀ (l : List AV) (k n : Nat), lk (zipT l k) n = if k ≤ n then l.getD (n - k) .unk else .unk
  | [], k, n => by unfold zipT lk; split <;> simp
  | a :: l, k, n => by
    unfold zipT lk
    by_cases h : k = n
    · subst h; simp
    · rw [if_neg h, zipT_lk l (k + 1) n]
      by_cases h2 : k ≤ n
      · rw [if_pos h2, if_pos (by omega), show n - k = (n - (k + 1)) + 1 by omega]; rfl
      · rw [if_neg h2, if_neg (by omega)]
theorem acall_mk {E : Env} (ok : EnvOk E) {f : FuncId} {fn : Func} {c : Code} {args : List AV} {A : List AO} {K : AV → List AO → Prop} (hf : E.P.funcs[f]? = some fn) (hb : fn.body = some c) (hnm : (fn.name == "runtime.NumGoroutine") = false) (hN : fn.ntmps = E.N) (hle : Nat.ble args.length E.N = true) (hn0 : A.length = E.n0)
    (h : awp E c (retQ E fn.results.toList K) ⟨zipT args 0, A⟩) : ACall E.P E.G f args A K := by
  refine ⟨⟨fn, hf, by rw [hb]; rfl, hnm⟩, fun cx H hA hG vs hv => ?_⟩
  have hvl := hv.length
  have hle := Nat.le_of_ble_eq_true hle
  refine calls_of_wp hf hb ?_
  have hs : Sim E.n0 cx E.N ⟨zipT args 0, A⟩ { tmps := vs.toArray ++ Array.replicate (fn.ntmps - vs.toArray.size) undef, defers := [] } cx.w := by
    refine ⟨cx, rfl, hA, H, fun n => ?_, ExtN.refl (by rw [hA]; omega), rfl, by simp [hN]; omega⟩
    show Rel cx (lk (zipT args 0) n) _
    rw [zipT_lk, if_pos (Nat.zero_le _), Nat.sub_zero]
    by_cases hlt : n < args.length
    · obtain ⟨v, k1, k2⟩ := hv.get _ _ n args[n] (List.getElem?_eq_getElem hlt)
      have e1 : args.getD n .unk = args[n] := getD_of_lt hlt
      rw [e1]
      have : (vs.toArray ++ Array.replicate (fn.ntmps - vs.toArray.size) undef).getD n undef = v := by
        rw [Array.getD_eq_getD_getElem?, Array.getElem?_append_left (by simp; omega)]
        simp [k1]
      rw [this]; exact k2
    · have e1 : args.getD n .unk = .unk := by rw [List.getD, List.getElem?_eq_none (by omega)]; rfl
      rw [e1]; exact rel_unk
  refine wp_mono (awp_sound ok cx hG c _ _ _ _ h hs) fun e a w ⟨σ, hq, c1, hw, hA1, H1, hT1, hE1, hd1, _⟩ => ?_
  have fin : runL (resVs E.D E.G σ.A σ.T fn.results.toList) (fun r => Done E K r σ.A) → a.defers = [] ∧ ∃ v, (results fn a.tmps).run E.P w = .ok v w ∧ ∃ v_1 c' r, Ending.returned v = .returned v_1 ∧ c'.w = w ∧ Ext cx c' ∧ HR c' ∧ Rel c' r v_1 ∧ K r c'.A := by
    intro h
    refine ⟨hd1, ?_⟩
    obtain ⟨hC, hK⟩ := runL_of h
    have hG1 : c1.G = E.G := hE1.G.trans hG
    rw [← hA1, ← hG1] at hC hK
    obtain ⟨us, k1, k2⟩ := resVs_sound ok.tab H1 hT1 fn.results.toList hC
    obtain ⟨r', A', he, hk⟩ := hK
    have hrun : ∃ v, (results fn a.tmps).run E.P w = .ok v w ∧ Rel c1 (retV (resVs E.D c1.G c1.A σ.T fn.results.toList).2) v := by
      rw [hw] at k1
      have hl := k2.length
      have hm : (fn.results.mapM (resOf a.tmps)).run E.P w = .ok us.toArray w := by
        rw [Array.mapM_eq_mapM_toList, Sem.run_map, k1]; rfl
      refine ⟨if h : us.toArray.size = 1 then us.toArray[0] else .tuple us.toArray, ?_, ?_⟩
      · rw [results_eq]
        simp only [Sem.run_bind, hm, Result.andThen_ok, Sem.run_pure]
      · generalize (resVs E.D c1.G c1.A σ.T fn.results.toList).2 = rs at *
        match rs, us, k2, hl with
        | [], [], _, _ => simp; unfold retV Rel; exact ⟨[], rfl, by unfold RelL; rfl⟩
        | [r], [u], h, _ => simp; unfold RelL at h; obtain ⟨v, l, e, h1, _⟩ := h; cases e; exact h1
        | r :: r2 :: rs, u :: u2 :: us, h, _ =>
          rw [dif_neg (by simp)]
          unfold retV Rel
          exact ⟨_, rfl, h⟩
    obtain ⟨v, hv1, hv2⟩ := hrun
    obtain ⟨c2, j1, j2, j3, j4, j5⟩ := he c1 H1 rfl hE1.le.len v hv2
    refine ⟨v, hv1, v, c2, r', rfl, j1.trans hw, ?_, j3, j5, by rw [j4]; exact hk⟩
    have := hE1.trans j2
    rw [← hn0, ← hA] at this
    exact ⟨this.le, this.X, this.G, this.far, this.st⟩
  cases e with
  | normal => exact fin hq
  | ret => exact fin hq
  | _ => exact hq.elim
end Go.Ab
