/-
  What holds of code holds of code within a round of a range over a function (no defer in it).
-/
import Derived.Test.YtcfalmdfohphoaaDoorM5
import Derived.OrdersIn
import Derived.RangeFuncCalls
import Derived.RangeFuncBox
import Derived.RangeFuncLeaves
import Derived.Shelf.Abstract
import Derived.Maps.Keyed
import Derived.Laws.IdiomRangeMap
import Derived.Deep.RegionLaw
import Derived.Lib.Walk
import Derived.Lib.SliceRun
namespace Go.Ab
open Go
/-- the wide fence, in a round or in none -/
def FR (r : Option Nat) : Fence := { Fence.wide with round := r }
theorem calls_in {r : Option Nat} {n : Nat} {P : Program} {f : FuncId} {args : Array Value} {w : World} {R : Ending → World → Prop} (h : Calls P f args w R) : CallsIn (FR r) n P f args w R :=
  ⟨trivial, (callsIn_wide (n := n) |>.2 h).2⟩
theorem rows_in {r : Option Nat} {n : Nat} {P : Program} {row : String} {args : Array Value} {w : World} {R : Value → World → Prop} (h : Rows P row args w R) : RowsIn (FR r) n P row args w R :=
  fun c cs _ => let ⟨v, w', q, s⟩ := h c cs; ⟨v, w', q, stepsIn_wide.2 s⟩
def noDef (o : Oper) : Bool := match o.op with
  | .defer _ => false
  | _ => true
theorem noDef_ne {o : Oper} (h : noDef o = true) : ∀ c, o.op ≠ .defer c := fun c e => by unfold noDef at h; rw [e] at h; cases h
theorem op_in {r : Option Nat} {n : Nat} {P : Program} {o : Oper} {a : Act} {w : World} {K : Act → World → Prop} {Q : Exit → Act → World → Prop} (hd : noDef o = true) (h : o.wp P a w K Q) : o.wpIn (FR r) n P a w K Q := by
  unfold Oper.wp at h
  unfold Oper.wpIn
  refine ⟨fun _ _ => trivial, ?_⟩
  rw [show (FR r).round = r from rfl, Oper.semAt_eq r _ _ (noDef_ne hd)]
  generalize (execOp a.eval o).run P w = x at *
  cases x with
  | ok nx w' =>
    cases nx <;> simp only [Oper.upon, Oper.uponIn] at h ⊢ <;> first | exact h | exact ⟨(fun hh => by cases hh), calls_in h⟩ | exact ⟨(fun hh => by cases hh), rows_in h⟩
  | halt x w' => cases x <;> simp only [Oper.upon, Oper.uponIn] at h ⊢ <;> exact h
theorem wpOp_in {r : Option Nat} {n : Nat} {P : Program} {ops : Array Oper} {Q : Exit → Act → World → Prop} {i : Nat} {K K' : Act → World → Prop} {a : Act} {w : World} (hd : ∀ o, ops[i]? = some o → noDef o = true) (hQ : ¬ LetsOut Q) (hK : ∀ a w, K a w → K' a w) (h : wpOp P ops Q i K a w) : wpOpIn (FR r) n P ops Q i K' a w := by
  unfold wpOp at h
  unfold wpOpIn
  cases ho : ops[i]? with
  | none => rw [ho] at h; exact hK _ _ h
  | some o =>
    rw [ho] at h
    simp only at h ⊢
    by_cases hw : Region.wanted o (yielded ops a.tmps) = true
    · rw [if_pos hw] at h ⊢
      rcases h with h | ⟨_, h⟩
      · exact op_in (hd o ho) (Oper.wp_mono hK h)
      · exact absurd h hQ
    · rw [if_neg hw] at h ⊢
      exact ⟨fun _ _ => trivial, hK _ _ h⟩
theorem wpOps_in {r : Option Nat} {n : Nat} {P : Program} {ops : Array Oper} {Q : Exit → Act → World → Prop} (hd : ∀ (i : Nat) (o : Oper), ops[i]? = some o → noDef o = true) (hQ : ¬ LetsOut Q) : ∀ (l : List Nat) (a : Act) (w : World), wpOps P ops Q l a w → wpOpsIn (FR r) n P ops Q l a w
  | [], _, _, h => h
  | i :: rest, a, w, h => by
    rw [wpOps_cons] at h
    rw [wpOpsIn_cons]
    exact wpOp_in (hd i) hQ (fun a w h => wpOps_in hd hQ rest a w h) h
theorem wpAny_in {r : Option Nat} {n : Nat} {P : Program} {md : Region.Mode} {ops : Array Oper} {Q : Exit → Act → World → Prop} (hd : ∀ (i : Nat) (o : Oper), ops[i]? = some o → noDef o = true) (hQ : ¬ LetsOut Q) : ∀ (fuel : Nat) (listed : Array Bool) (a : Act) (w : World), wpAny P md ops Q fuel listed a w → wpAnyIn (FR r) n P md ops Q fuel listed a w
  | 0, _, _, _, h => h
  | fuel + 1, _, _, _, h => ⟨h.1, fun i hi => wpOp_in (hd i) hQ (fun a w h => wpAny_in hd hQ fuel _ a w h) (h.2 i hi)⟩
/-- no deferred call stands in this code -/
def ndC : Code → Bool
  | .region _ ⟨L⟩ _ => L.all noDef
  | .seq x y => ndC x && ndC y
  | .cond _ x y => ndC x && ndC y
  | .block _ c => ndC c
  | .loop c => ndC c
  | _ => true
/-- how a region is left: ahead -/
def onlyN (Q : Exit → Act → World → Prop) : Exit → Act → World → Prop
  | .normal, a, w => Q .normal a w
  | _, _, _ => False
theorem onlyN_out (Q : Exit → Act → World → Prop) : ¬ LetsOut (onlyN Q) := fun ⟨_, _, h⟩ => h
theorem onlyN_to {Q : Exit → Act → World → Prop} : ∀ e a w, onlyN Q e a w → Q e a w
  | .normal, _, _, h => h
theorem awp_sound_in {E : Env} (ok : EnvOk E) (r : Option Nat) (n : Nat) (c0 : Cx) (hG : c0.G = E.G) : ∀ (c : Code), ndC c = true → ∀ (Q : Exit → St → Prop) (σ : St) (a : Act) (w : World), awp E c Q σ → Sim E.n0 c0 E.N σ a w → c.wpIn (FR r) n E.P (Post E c0 Q) a w := by
  intro c
  induction c with
  | skip => intro _ Q σ a w h hs; exact wpIn_skip ⟨σ, h, hs⟩
  | label l => intro _ Q σ a w h hs; exact wpIn_label ⟨σ, h, hs⟩
  | exit id => intro _ Q σ a w h hs; exact wpIn_exit ⟨σ, h, hs⟩
  | goto l => intro _ Q σ a w h hs; exact wpIn_goto ⟨σ, h, hs⟩
  | ret => intro _ Q σ a w h hs; exact wpIn_ret ⟨σ, h, hs⟩
  | refuse s => intro _ Q σ a w h hs; exact h.elim
  | scope c _ => intro _ Q σ a w h hs; exact h.elim
  | rangeFunc f ps x y _ _ => intro _ Q σ a w h hs; exact h.elim
  | region id ops draw =>
    intro hnd Q σ a w h hs
    obtain ⟨L⟩ := ops
    have hnd : L.all noDef = true := hnd
    have hd : ∀ i o, (⟨L⟩ : Array Oper)[i]? = some o → noDef o = true := fun i o ho => List.all_eq_true.1 hnd o (by
      have := Array.mem_of_getElem? ho
      simpa using this)
    obtain ⟨P, D, G, N, n0, cuts⟩ := E
    have main : ∀ (T : List (Nat × AV)) (A : List AO), aReg P D G N L draw T A (fun T A => Q .normal ⟨T, A⟩) → Sim n0 c0 N ⟨T, A⟩ a w → (Code.region id ⟨L⟩ draw).wpIn (FR r) n P (Post ⟨P, D, G, N, n0, cuts⟩ c0 Q) a w := by
      intro T A h hs
      refine wpIn_mono ?_ (onlyN_to (Q := Post ⟨P, D, G, N, n0, cuts⟩ c0 Q))
      cases draw with
      | false =>
        obtain ⟨c, rfl, hA, H, hT, hE, hd', hN⟩ := hs
        have h : aOps P D G N L L T A (fun T A => Q .normal ⟨T, A⟩) := h
        have hA : c.A = A := hA
        have hG : c0.G = G := hG
        rw [← hA, ← hG] at h
        have := aOps_sound (Qc := onlyN (Post ⟨P, D, G, N, n0, cuts⟩ c0 Q)) ok.tab L 0 T c a (fun j => by simp) H hT hE hd' hN h fun c' a' T' H' hT' hE' hd' hN' hQ => ⟨⟨T', c'.A⟩, hQ, c', rfl, rfl, H', hT', hE', hd', hN'⟩
        refine wpIn_region (wpOps_in hd (onlyN_out _) _ _ _ ?_)
        rw [List.range_eq_range']
        simpa using this
      | true =>
        refine wpIn_region_any ok.mix (wpAny_in hd (onlyN_out _) _ _ _ _ ?_)
        obtain ⟨c, hw, hA, H, hT, hE, hd', hN⟩ := sim_heap (E := ⟨P, D, G, N, n0, cuts⟩) (w' := { w with drawn := w.drawn + 1 }) hs rfl ⟨rfl, rfl, rfl⟩
        rw [← hw]
        have h : aRegion P D G N L T A (fun T A => Q .normal ⟨T, A⟩) := h
        have hA : c.A = A := hA
        have hG : c0.G = G := hG
        rw [← hA, ← hG] at h
        have := aRegion_sound (Qc := onlyN (Post ⟨P, D, G, N, n0, cuts⟩ c0 Q)) ok.tab H hT hE hd' hN h fun c' a' T' H' hT' hE' hd' hN' hQ => ⟨⟨T', c'.A⟩, hQ, c', rfl, rfl, H', hT', hE', hd', hN'⟩
        simpa using this
    obtain ⟨T, A⟩ := σ
    unfold awp at h
    simp only at h
    split at h
    · exact main T A h hs
    · obtain ⟨T', A', he, h⟩ := h
      refine main T' A' h ?_
      obtain ⟨cx, hw, hA, H, hT, hE, hd, hN⟩ := hs
      obtain ⟨c', k1, k2, k3, k4, k5⟩ := he cx H hA hE.le.len _ hT
      exact ⟨c', k1.trans hw, k4, k3, k5, hE.trans k2, hd, hN⟩
  | seq x y ihx ihy =>
    intro hnd Q σ a w h hs
    unfold ndC at hnd
    simp only [Bool.and_eq_true] at hnd
    refine wpIn_seq (wpIn_mono (ihx hnd.1 _ σ a w h hs) fun e a' w' ⟨σ', hq, hs'⟩ => ?_)
    cases e with
    | normal => exact ihy hnd.2 Q σ' a' w' hq hs'
    | _ => exact ⟨σ', hq, hs'⟩
  | cond c x y ihx ihy =>
    intro hnd Q σ a w h hs
    unfold ndC at hnd
    simp only [Bool.and_eq_true] at hnd
    unfold awp at h
    split at h
    · rename_i b hb
      obtain ⟨cx, rfl, hA, H, hT, hE, hd, hN⟩ := hs
      have hv := hT.ev (a := a) c
      rw [hb] at hv
      refine wpIn_cond_split (rel_bool.1 hv) (fun ht => ihx hnd.1 Q σ a _ (h.1 ht) ⟨cx, rfl, hA, H, hT, hE, hd, hN⟩) (fun hf => ihy hnd.2 Q σ a _ (h.2 hf) ⟨cx, rfl, hA, H, hT, hE, hd, hN⟩)
    · exact h.elim
  | block id c ih =>
    intro hnd Q σ a w h hs
    refine wpIn_block (wpIn_mono (ih hnd _ σ a w h hs) fun e a' w' ⟨σ', hq, hs'⟩ => ?_)
    cases e with
    | exit i =>
      show if i = id then _ else _
      have hq : (match Nat.beq i id with | true => Q .normal σ' | false => Q (.exit i) σ') := hq
      by_cases hi : i = id
      · rw [if_pos hi]
        have : Nat.beq i id = true := by rw [hi]; simp
        rw [this] at hq; exact ⟨σ', hq, hs'⟩
      · rw [if_neg hi]
        have : Nat.beq i id = false := by
          cases hb : Nat.beq i id with
          | false => rfl
          | true => exact absurd (beq_eq hb) hi
        rw [this] at hq; exact ⟨σ', hq, hs'⟩
    | _ => exact ⟨σ', hq, hs'⟩
  | loop c ih =>
    intro hnd Q σ a w h hs
    obtain ⟨ι, S, I, μ, i0, h0, he, hround⟩ := h
    have ent : ∀ {σ σ' : St} {a : Act} {w : World}, Ent E.n0 σ σ' → Sim E.n0 c0 E.N σ a w → Sim E.n0 c0 E.N σ' a w := by
      intro σ σ' a w he ⟨cx, hw, hA, H, hT, hE, hd, hN⟩
      obtain ⟨c', k1, k2, k3, k4, k5⟩ := he cx H hA hE.le.len _ hT
      exact ⟨c', k1.trans hw, k4, k3, k5, hE.trans k2, hd, hN⟩
    let M : Act → World → Nat := fun a w => Classical.epsilon fun n => (∃ i, I i ∧ Sim E.n0 c0 E.N (S i) a w ∧ μ i = n) ∧ ∀ i, I i → Sim E.n0 c0 E.N (S i) a w → n ≤ μ i
    have hM : ∀ a w, (∃ i, I i ∧ Sim E.n0 c0 E.N (S i) a w) → (∃ i, I i ∧ Sim E.n0 c0 E.N (S i) a w ∧ μ i = M a w) ∧ ∀ i, I i → Sim E.n0 c0 E.N (S i) a w → M a w ≤ μ i := by
      intro a w ⟨i, hi, hsi⟩
      have : ∃ n, (∃ i, I i ∧ Sim E.n0 c0 E.N (S i) a w ∧ μ i = n) ∧ ∀ i, I i → Sim E.n0 c0 E.N (S i) a w → n ≤ μ i := by
        obtain ⟨m, ⟨j, j1, j2, j3⟩, hm⟩ := least_of (p := fun n => ∃ i, I i ∧ Sim E.n0 c0 E.N (S i) a w ∧ μ i = n) (μ i) ⟨i, hi, hsi, rfl⟩
        refine ⟨m, ⟨j, j1, j2, j3⟩, fun i' hi' hs' => ?_⟩
        rcases Nat.lt_or_ge (μ i') m with h | h
        · exact absurd ⟨i', hi', hs', rfl⟩ (hm _ h)
        · exact h
      exact Classical.epsilon_spec this
    refine wpIn_loop (fun a w => ∃ i, I i ∧ Sim E.n0 c0 E.N (S i) a w) M ⟨i0, h0, ent he hs⟩ fun a w hI => ?_
    obtain ⟨⟨i, hi, hsi, hμ⟩, _⟩ := hM a w hI
    refine wpIn_mono (ih hnd _ (S i) a w (hround i hi) hsi) fun e a' w' ⟨σ', hq, hs'⟩ => ?_
    cases e with
    | normal =>
      obtain ⟨j, hj, hlt, hej⟩ := hq
      have hsj := ent hej hs'
      refine ⟨⟨j, hj, hsj⟩, ?_⟩
      have := (hM a' w' ⟨j, hj, hsj⟩).2 j hj hsj
      omega
    | _ => exact ⟨σ', hq, hs'⟩
end Go.Ab
/-
  Code that has marks beside it (behind a range over a function): loads and assignments alone.
-/
namespace Go.Ab
open Go
def wd (a : Act) (ds : List Deferred) : Act := { a with defers := ds }
theorem wd_put (a : Act) (ds : List Deferred) (d : Option Tmp) (v : Value) : (wd a ds).put d v = wd (a.put d v) ds := by cases d <;> rfl
theorem wd_eval (a : Act) (ds : List Deferred) : (wd a ds).eval = a.eval := by funext o; cases o <;> rfl
def calmO (o : Oper) : Bool := match o.op with
  | .move _ => true
  | .assign _ => true
  | .load _ _ => true
  | .fieldAddr _ _ _ => true
  | _ => false
theorem calm_run {o : Oper} (h : calmO o = true) (ρ : Operand → Value) : ∃ s : Sem Value, execOp ρ o = (do pure (.value (← s))) ∧ noDef o = true := by
  unfold calmO at h
  unfold execOp noDef
  cases ho : o.op <;> rw [ho] at h <;> first | cases h | skip
  case move x => exact ⟨pure (ρ x), by simp, rfl⟩
  case assign x => exact ⟨pure (ρ x), by simp, rfl⟩
  case load t x => exact ⟨_, rfl, rfl⟩
  case fieldAddr s x f => exact ⟨_, rfl, rfl⟩
theorem op_ds {n : Nat} {P : Program} {o : Oper} {a : Act} {w : World} {ds : List Deferred} {K K' : Act → World → Prop} {Q Q' : Exit → Act → World → Prop} (hd : calmO o = true) (hK : ∀ a w, K a w → K' (wd a ds) w) (hQ : ∀ e a w, ¬ e = .normal → ¬ Q e a w) (h : o.wp P a w K Q) : o.wpIn (FR none) n P (wd a ds) w K' Q' := by
  obtain ⟨s, hs, hnd⟩ := calm_run hd a.eval
  unfold Oper.wp at h
  unfold Oper.wpIn
  refine ⟨fun _ _ => trivial, ?_⟩
  rw [show (FR none).round = none from rfl, Oper.semAt_eq none _ _ (noDef_ne hnd), wd_eval, hs]
  rw [hs] at h
  simp only [Sem.run_bind, Sem.run_pure] at h ⊢
  cases hx : s.run P w with
  | ok v w' =>
    rw [hx] at h
    simp only [Result.andThen_ok, Oper.upon, Oper.uponIn] at h ⊢
    rw [wd_put]; exact hK _ _ h
  | halt x w' =>
    rw [hx] at h
    cases x <;> simp only [Result.andThen, Oper.upon, Oper.uponIn] at h ⊢
    exact absurd h (hQ _ _ _ (by simp))
theorem wpOps_ds {n : Nat} {P : Program} {ops : Array Oper} {Q Q' : Exit → Act → World → Prop} {ds : List Deferred} (hd : ∀ (i : Nat) (o : Oper), ops[i]? = some o → calmO o = true) (hQ : ∀ e a w, ¬ e = .normal → ¬ Q e a w) (hN : ∀ a w, Q .normal a w → Q' .normal (wd a ds) w) : ∀ (l : List Nat) (a : Act) (w : World), wpOps P ops Q l a w → wpOpsIn (FR none) n P ops Q' l (wd a ds) w
  | [], _, _, h => hN _ _ h
  | i :: rest, a, w, h => by
    rw [wpOps_cons] at h
    rw [wpOpsIn_cons]
    unfold wpOp at h
    unfold wpOpIn
    cases ho : ops[i]? with
    | none => rw [ho] at h; exact wpOps_ds hd hQ hN rest _ _ h
    | some o =>
      rw [ho] at h
      simp only at h ⊢
      by_cases hw : Region.wanted o (yielded ops a.tmps) = true
      · rw [if_pos hw] at h
        rw [if_pos (show Region.wanted o (yielded ops (wd a ds).tmps) = true from hw)]
        rcases h with h | ⟨_, a', w', h⟩
        · exact op_ds (hd i o ho) (fun a w h => wpOps_ds hd hQ hN rest a w h) hQ h
        · exact absurd h (hQ _ _ _ (by simp))
      · rw [if_neg hw] at h
        rw [if_neg (show ¬ Region.wanted o (yielded ops (wd a ds).tmps) = true from hw), wd_put]
        exact ⟨fun _ _ => trivial, wpOps_ds hd hQ hN rest _ _ h⟩
def calmC : Code → Bool
  | .skip => true
  | .ret => true
  | .region _ ⟨L⟩ false => L.all calmO
  | .seq x y => calmC x && calmC y
  | _ => false
def PostD (E : Env) (c0 : Cx) (Q : Exit → St → Prop) (ds : List Deferred) : Exit → Act → World → Prop := fun e a w => ∃ a0, a = wd a0 ds ∧ Post E c0 Q e a0 w
theorem awp_sound_ds {E : Env} (ok : EnvOk E) (ds : List Deferred) (n : Nat) (c0 : Cx) (hG : c0.G = E.G) : ∀ (c : Code), calmC c = true → ∀ (Q : Exit → St → Prop) (σ : St) (a : Act) (w : World), awp E c Q σ → Sim E.n0 c0 E.N σ a w → c.wpIn (FR none) n E.P (PostD E c0 Q ds) (wd a ds) w := by
  intro c
  induction c with
  | skip => intro _ Q σ a w h hs; exact wpIn_skip ⟨a, rfl, σ, h, hs⟩
  | ret => intro _ Q σ a w h hs; exact wpIn_ret ⟨a, rfl, σ, h, hs⟩
  | seq x y ihx ihy =>
    intro hnd Q σ a w h hs
    unfold calmC at hnd
    simp only [Bool.and_eq_true] at hnd
    refine wpIn_seq (wpIn_mono (ihx hnd.1 _ σ a w h hs) fun e a' w' ⟨a0, ha, σ', hq, hs'⟩ => ?_)
    cases e with
    | normal => subst ha; exact ihy hnd.2 Q σ' a0 w' hq hs'
    | _ => exact ⟨a0, ha, σ', hq, hs'⟩
  | region id ops draw =>
    intro hnd Q σ a w h hs
    obtain ⟨L⟩ := ops
    cases draw with
    | true => cases hnd
    | false =>
      have hnd : L.all calmO = true := hnd
      have hd : ∀ (i : Nat) (o : Oper), (⟨L⟩ : Array Oper)[i]? = some o → calmO o = true := fun i o ho => List.all_eq_true.1 hnd o (by
        have := Array.mem_of_getElem? ho
        simpa using this)
      obtain ⟨P, D, G, N, n0, cuts⟩ := E
      have main : ∀ (T : List (Nat × AV)) (A : List AO), aReg P D G N L false T A (fun T A => Q .normal ⟨T, A⟩) → Sim n0 c0 N ⟨T, A⟩ a w → (Code.region id ⟨L⟩ false).wpIn (FR none) n P (PostD ⟨P, D, G, N, n0, cuts⟩ c0 Q ds) (wd a ds) w := by
        intro T A h hs
        obtain ⟨c, rfl, hA, H, hT, hE, hd', hN⟩ := hs
        have h : aOps P D G N L L T A (fun T A => Q .normal ⟨T, A⟩) := h
        have hA : c.A = A := hA
        have hG : c0.G = G := hG
        rw [← hA, ← hG] at h
        have := aOps_sound (Qc := onlyN (Post ⟨P, D, G, N, n0, cuts⟩ c0 Q)) ok.tab L 0 T c a (fun j => by simp) H hT hE hd' hN h fun c' a' T' H' hT' hE' hd' hN' hQ => ⟨⟨T', c'.A⟩, hQ, c', rfl, rfl, H', hT', hE', hd', hN'⟩
        refine wpIn_region (wpOps_ds (Q := onlyN (Post ⟨P, D, G, N, n0, cuts⟩ c0 Q)) hd (fun e a w he hq => by cases e <;> first | exact he rfl | exact hq) (fun a w h => ⟨a, rfl, h⟩) _ _ _ ?_)
        rw [List.range_eq_range']
        simpa using this
      obtain ⟨T, A⟩ := σ
      unfold awp at h
      simp only at h
      split at h
      · exact main T A h hs
      · obtain ⟨T', A', he, h⟩ := h
        refine main T' A' h ?_
        obtain ⟨cx, hw, hA, H, hT, hE, hd, hN⟩ := hs
        obtain ⟨c', k1, k2, k3, k4, k5⟩ := he cx H hA hE.le.len _ hT
        exact ⟨c', k1.trans hw, k4, k3, k5, hE.trans k2, hd, hN⟩
  | _ => intro hnd; cases hnd
end Go.Ab
/-
  A range over slices.Backward of ints.
-/
namespace Go.Ab
open Go Go.RowKit Go.Shelf
/-! ### blocks that are another's, turned or added -/
structure Turn (c c' : Cx) : Prop where
  A : c'.A = c.A
  ρ : c'.ρ = c.ρ
  G : c'.G = c.G
  I : ∀ b, c.I b → b < c.w.heap.size → c'.I b ∧ c'.w.heap[b]? = c.w.heap[b]?
  tok : ∀ t b, c.live t → c.ρ t = some b → ¬ c'.X b ∧ c'.w.heap[b]? = c.w.heap[b]?
  old : ∀ b, c'.X b → b < c'.w.heap.size
theorem Turn.le {c c' : Cx} (h : Turn c c') : Le c.A.length c c' := by
  refine ⟨h.I, fun t ht => ?_, by rw [h.A]; exact Nat.le_refl _⟩
  unfold TokLe
  rw [h.A, List.getElem?_eq_getElem ht]
  cases hA : c.A[t] with
  | row e xs =>
    refine .inl ⟨⟨xs, rfl⟩, by rw [h.ρ], fun b cs et hb hh => ⟨cs, ?_, rfl⟩⟩
    have := (h.tok t b ⟨_, (List.getElem?_eq_getElem ht).trans (congrArg some hA), rfl⟩ hb).2
    rw [this]; exact hh
  | box vs => exact .inl ⟨⟨vs, rfl⟩, by rw [h.ρ]⟩
  | mapo i vs => exact .inl ⟨⟨i, vs, rfl, rfl⟩, by rw [h.ρ]⟩
  | dead => trivial
  | room => rfl
theorem Turn.hr {c c' : Cx} (h : Turn c c') (H : HR c) : HR c' := by
  have lv : ∀ t, c'.live t → c.live t := fun t ⟨o, h1, h2⟩ => ⟨o, by rw [← h.A]; exact h1, h2⟩
  refine ⟨fun t b hl hb => (h.tok t b (lv t hl) (by rw [← h.ρ]; exact hb)).1, fun t u b h1 h2 h3 h4 => H.inj t u b (lv t h1) (lv u h2) (by rw [← h.ρ]; exact h3) (by rw [← h.ρ]; exact h4), fun t o ho => ?_, h.old, fun g v hg => (H.glo g v (by rw [← h.G]; exact hg)).mono h.I⟩
  have ho' : c.A[t]? = some o := by rw [← h.A]; exact ho
  have := H.obj t o ho'
  rw [h.ρ]
  cases o with
  | dead => trivial
  | room => trivial
  | row e xs =>
    rcases this with h1 | ⟨b, cs, et, h1, h2, h3⟩
    · exact .inl h1
    · refine .inr ⟨b, cs, et, h1, by rw [(h.tok t b ⟨_, ho', rfl⟩ h1).2]; exact h2, fun i hi => ?_⟩
      obtain ⟨ds, k1, k2⟩ := h3 i hi
      exact ⟨ds, k1.mono h.I, k2⟩
  | box vs =>
    obtain ⟨b, cs, et, h1, h2, h3⟩ := this
    exact ⟨b, cs, et, h1, by rw [(h.tok t b ⟨_, ho', rfl⟩ h1).2]; exact h2, RelL.mono h.le _ _ h3.ok h3⟩
  | mapo i vs =>
    obtain ⟨b, ob, us, h1, h2, h4, h3⟩ := this
    exact ⟨b, ob, us, h1, by rw [(h.tok t b ⟨_, ho', rfl⟩ h1).2]; exact h2, h4, RelL.mono h.le _ _ h3.ok h3⟩
theorem TR.le {c c' : Cx} (H : Le c.A.length c c') {T : List (Nat × AV)} {t : Array Value} (h : TR c T t) : TR c' T t := fun n => Rel.mono H _ _ (h n).ok (h n)
/-- a block of another's is written -/
theorem turn_put {c : Cx} (H : HR c) {r : Nat} (hr : c.X r) (o : Obj) : Turn c { c with w := c.w.putObj r o } where
  A := rfl
  ρ := rfl
  G := rfl
  I := fun _b h _ => ⟨h, World.putObj_heap_other (fun e => h.1 (e ▸ hr))⟩
  tok := fun t b hl hb => ⟨H.far t b hl hb, World.putObj_heap_other (fun e => H.far t b hl hb (e ▸ hr))⟩
  old := fun b hb => by
    have := H.old b hb
    show b < (c.w.putObj r o).heap.size
    simpa using this
theorem same_put (w : World) (r : Nat) (o : Obj) : WSame w (w.putObj r o) := ⟨rfl, rfl, rfl⟩
/-- what lies between the context that a function began in and the one behind its loop -/
structure Mid (n0 : Nat) (c0 c1 : Cx) (D : Nat) : Prop where
  le : Le n0 c0 c1
  G : c1.G = c0.G
  X : ∀ b, c0.X b → c1.X b
  XD : c1.X D
  dfr : c1.w.heap[D]? = some (.deferred (some []))
  notX : ¬ c0.X D
  notI : ∀ b, c0.I b → b < c0.w.heap.size → b ≠ D
  far : ∀ b, c0.X b → c1.w.heap[b]? = c0.w.heap[b]?
  st : WSame c0.w c1.w
def BackOk (P : Program) (f : Nat) : Prop := ∀ (n l Bs len : Nat) (zs : List Int), 1 ≤ n → 0 < len → len * 8 ≤ 140737488351232 → ∀ (J : Nat → World → Prop),
  (∀ k W, J k W → ∃ b off cap, W.cell? ⟨Bs, 0, none⟩ = some (.slice (some ⟨b, off, none⟩) len cap) ∧ ∀ j, j < len → W.cell? ⟨b, off + j, none⟩ = some (.int .i64 (zs[j]?.getD 0))) →
  (∀ k j W, J k W → k + j + 1 = len → YieldAt Fence.wide (n - 1) P l #[.int .i64 (j : Int), .int .i64 (zs[j]?.getD 0)] W fun e W' => e = .returned (.bool true) ∧ J (k + 1) W') →
  ∀ W, J 0 W → CallsIn Fence.wide n P f #[.func (.yield l) #[] #[], .pointer (some ⟨Bs, 0, none⟩)] W fun e W' => (∃ v, e = .returned v) ∧ J len W'
def rndQ (n : Nat) (A' : List AO) : Exit → St → Prop
  | .normal, σ => ∃ _u : Unit, Ent n σ ⟨[], A'⟩
  | _, _ => False
theorem fz_ints {c : Cx} {l : List Int} {v : Value} (h0 : 0 < l.length) (h : Rel c (.fz (.list (.int .i64)) l) v) : ∃ b off cap, v = .slice (some ⟨b, off, none⟩) l.length cap ∧ ∀ j, j < l.length → c.w.cell? ⟨b, off + j, none⟩ = some (.int .i64 (l[j]?.getD 0)) := by
  obtain ⟨p, cap, rfl, hf⟩ := rel_list h
  unfold FzC at hf
  obtain ⟨p', cap', e, hle, hall⟩ := hf
  cases e
  obtain ⟨b, off, cs, hp, _, _, _, _⟩ := hall 0 h0
  subst hp
  refine ⟨b, off, cap, rfl, fun j hj => ?_⟩
  obtain ⟨b', off', cs, hp, _, _, hc, hcell⟩ := hall j hj
  cases hp
  unfold FzC at hc
  subst hc
  have := hcell 0 (by simp)
  have hs : Ty.size (.int .i64) = 1 := rfl
  rw [hs] at this
  simpa [hj] using this
end Go.Ab
/-
  A range over slices.Backward of ints: the rule.
-/
namespace Go.Ab
open Go Go.RowKit Go.Shelf
theorem le_trans {n m : Nat} {c c' c'' : Cx} (h : Le n c c') (h' : Le m c' c'') (hn : n ≤ m) : Le n c c'' := by
  refine ⟨fun b hI hb => ?_, fun t ht => (h.tok t ht).trans (h'.tok t (by omega)), by have := h'.len; omega⟩
  obtain ⟨k1, k2⟩ := h.I b hI hb
  obtain ⟨k3, k4⟩ := h'.I b k1 (heap_lt hb k2)
  exact ⟨k3, k4.trans k2⟩
theorem Le.lower {n m : Nat} {c c' : Cx} (h : Le n c c') (hm : m ≤ n) : Le m c c' := ⟨h.I, fun t ht => h.tok t (by omega), by have := h.len; omega⟩
theorem box_tok {c c' : Cx} {t : Nat} (h : TokLe c c' t) {vs vs' : List AV} (h1 : c.A[t]? = some (.box vs)) (h2 : c'.A[t]? = some (.box vs')) : c'.ρ t = c.ρ t := by
  unfold TokLe at h
  rw [h1, h2] at h
  rcases h with ⟨_, h⟩ | ⟨e, xs, h⟩ | h
  · first | exact h | exact h.symm
  · cases h
  · cases h
theorem rf_wp {E : Env} (ok : EnvOk E) {f : Nat} (hback : BackOk E.P f) (hent : ∀ args w, (callFunc f args).run E.P w = .ok (.enter f args) w) {g : Operand} {p0 p1 : Nat} {assign body : Code} (nda : ndC assign = true) (ndb : ndC body = true)
    {c0 : Cx} (hG : c0.G = E.G) {T : List (Nat × AV)} {A : List AO} {tok : Nat} {l : List Int} (hp0 : p0 < E.N) (hp1 : p1 < E.N)
    (hg : ev T g = .fn f [.ptr tok 0]) (h0 : 0 < l.length) (h8 : l.length * 8 ≤ 140737488351232)
    (S : Nat → List AO) (hS0 : S 0 = A) (hSt : ∀ k, k ≤ l.length → (S k)[tok]? = some (.box [.fz (.list (.int .i64)) l])) (hSl : ∀ k, k ≤ l.length → (S k).length = A.length)
    (hround : ∀ k j, k + j + 1 = l.length → awp ⟨E.P, E.D, E.G, E.N, A.length, E.cuts⟩ assign (thenQ (awp ⟨E.P, E.D, E.G, E.N, A.length, E.cuts⟩ body (rndQ A.length (S (k + 1)))) fun _ _ => False) ⟨(p1, .fz (.int .i64) (l[j]?.getD 0)) :: (p0, .fz (.int .i64) (j : Int)) :: T, S k⟩)
    {a : Act} {w : World} (hs : Sim E.n0 c0 E.N ⟨T, A⟩ a w) {QQ : Exit → Act → World → Prop}
    (hQQ : ∀ (D : Nat) (c1 : Cx), Mid E.n0 c0 c1 D → HR c1 → c1.A = S l.length → TR c1 T a.tmps → a.tmps.size = E.N → QQ .normal (wd a [{ target := .collected D, args := #[] }]) c1.w) :
    (Code.rangeFunc g #[p0, p1] assign body).wpIn (FR none) 2 E.P QQ a w := by
  obtain ⟨c, rfl, hA, H, hT, hE, hd, hN⟩ := hs
  have hA : c.A = A := hA
  have hT : TR c T a.tmps := hT
  have ok1 : EnvOk ⟨E.P, E.D, E.G, E.N, A.length, E.cuts⟩ := ⟨ok.tab, ok.mix⟩
  -- the iterator's value
  have hv := hT.ev (a := a) g
  rw [hg] at hv
  unfold Rel at hv
  obtain ⟨vs, hgv, hvs⟩ := hv
  unfold RelL at hvs
  obtain ⟨v, r, rfl, hv, hr⟩ := hvs
  unfold RelL at hr
  subst hr
  have hAt : c.A[tok]? = some (.box [.fz (.list (.int .i64)) l]) := by rw [hA, ← hS0]; exact hSt 0 (Nat.zero_le _)
  unfold Rel at hv
  rw [hAt] at hv
  obtain ⟨B, hB, rfl⟩ := hv
  have hgv : a.eval g = .func (.func f) #[] #[.pointer (some ⟨B, 0, none⟩)] := hgv
  refine wpIn_rangeFunc fun fn _ => ?_
  rw [show (FR none).round = none from rfl]
  obtain ⟨D, hD⟩ : ∃ D, D = c.w.heap.size := ⟨_, rfl⟩
  obtain ⟨rec, hrec⟩ : ∃ rec : LoopState → Loop, rec = fun st => { state := st, pending := none, fn, tmps := a.tmps, params := #[p0, p1], assign, body, defers := c.w.heap.size } := ⟨_, rfl⟩
  obtain ⟨W1, hW1⟩ : ∃ W1, (c.w.alloc (.deferred (some []))).alloc (.loop (rec .ready)) = W1 := ⟨_, rfl⟩
  have hsz : W1.heap.size = D + 2 := by rw [← hW1, World.size_alloc, World.size_alloc, hD]
  have hold : ∀ b, b < c.w.heap.size → W1.heap[b]? = c.w.heap[b]? := fun b hb => by
    rw [← hW1]; exact (heap_alloc_old _ _ (by rw [World.size_alloc]; omega)).trans (heap_alloc_old _ _ hb)
  have hL1 : W1.heap[D + 1]? = some (.loop (rec .ready)) := by
    rw [← hW1, hD]; have := World.alloc_heap_new (c.w.alloc (.deferred (some []))) (.loop (rec .ready)); rwa [World.size_alloc] at this
  have hD1 : W1.heap[D]? = some (.deferred (some [])) := by
    rw [← hW1, hD]; exact (heap_alloc_old _ _ (by rw [World.size_alloc]; omega)).trans (World.alloc_heap_new c.w _)
  let cD : Cx := { c with w := W1, X := fun b => c.X b ∨ b = D ∨ b = D + 1 }
  have tD : Turn c cD := by
    refine ⟨rfl, rfl, rfl, fun b hI hb => ⟨⟨fun hx => ?_, hI.2⟩, hold b hb⟩, fun t b hl hb => ?_, fun b hb => ?_⟩
    · rcases hx with hx | hx | hx
      · exact hI.1 hx
      · omega
      · omega
    · have hlt : b < c.w.heap.size := by
        obtain ⟨o, h1, h2⟩ := hl
        have := H.obj t o h1
        rw [hb] at this
        exact this.lt h2
      refine ⟨fun hx => ?_, hold b hlt⟩
      rcases hx with hx | hx | hx
      · exact H.far t b hl hb hx
      · omega
      · omega
    · show b < W1.heap.size
      rcases hb with hb | hb | hb
      · have := H.old b hb; omega
      · omega
      · omega
  have HD : HR cD := tD.hr H
  have TD : TR cD T a.tmps := hT.le tD.le
  have sD : WSame c.w W1 := by rw [← hW1]; exact ⟨rfl, rfl, rfl⟩
  have hlen : cD.A.length = A.length := congrArg List.length hA
  obtain ⟨J, hJ⟩ : ∃ J : Nat → World → Prop, J = fun k W => k ≤ l.length ∧ ∃ c1 : Cx, c1.w = W ∧ HR c1 ∧ c1.A = S k ∧ Le A.length cD c1 ∧ c1.X = cD.X ∧ c1.G = cD.G ∧ WSame cD.w c1.w ∧ (∀ b, cD.X b → b ≠ D + 1 → c1.w.heap[b]? = cD.w.heap[b]?) ∧ W.heap[D + 1]? = some (.loop (rec .ready)) := ⟨_, rfl⟩
  have hJ0 : J 0 W1 := by
    rw [hJ]
    exact ⟨Nat.zero_le _, cD, rfl, HD, hA.trans hS0.symm, ⟨fun _ h _ => ⟨h, rfl⟩, fun t h => TokLe.refl (by rw [hlen]; exact h), by rw [hlen]; exact Nat.le_refl _⟩, rfl, rfl, WSame.refl _, fun _ _ _ => rfl, hL1⟩
  refine ⟨D + 1, [{ target := .collected D, args := #[] }], W1, { target := .fn (.func f) #[.pointer (some ⟨B, 0, none⟩)], args := #[.func (.yield (D + 1)) #[] #[]] }, W1, f,
    #[.func (.yield (D + 1)) #[] #[]] ++ #[.pointer (some ⟨B, 0, none⟩)], W1, ?_, ?_, fun _ _ => trivial, ?_, fun h => (by cases h), ?_⟩
  · rw [← hW1, hrec, hD]; exact run_enterLoop_outer _ _ _ _ _
  · simp only [resolve, hgv]
    simp [go_sem]
  · simp [invoke, go_sem, hent]
  · refine CallsIn.mono (hback (2 - 1) (D + 1) B l.length l (by omega) h0 h8 J ?_ ?_ W1 hJ0) ?_
    · -- the slice is read
      intro k W hk
      rw [hJ] at hk
      obtain ⟨hkl, c1, rfl, H1, hA1, le1, _⟩ := hk
      have hAt1 : c1.A[tok]? = some (.box [.fz (.list (.int .i64)) l]) := by rw [hA1]; exact hSt k hkl
      have htl : tok < A.length := by rw [← hA]; exact get_lt hAt
      have hρ : c1.ρ tok = cD.ρ tok := box_tok (le1.tok tok htl) (show cD.A[tok]? = _ from hAt) hAt1
      obtain ⟨b, cs, et, k1, k2, k3⟩ := H1.obj tok _ hAt1
      unfold RelL at k3
      obtain ⟨v, r, rfl, k3, k4⟩ := k3
      unfold RelL at k4
      subst k4
      rw [hρ, show cD.ρ tok = some B from hB] at k1
      cases k1
      obtain ⟨b', off, cap, rfl, hcell⟩ := fz_ints h0 k3
      exact ⟨b', off, cap, by unfold World.cell?; simp [k2], hcell⟩
    · -- one round
      intro k j W hk hkj
      rw [hJ] at hk
      obtain ⟨hkl, c1, rfl, H1, hA1, le1, X1, G1, st1, far1, hl1⟩ := hk
      have T1 : TR c1 T a.tmps := TD.le (by rw [hlen]; exact le1)
      have hG1 : c1.G = E.G := G1.trans (hE.G.trans hG)
      have x1 : c1.X (D + 1) := by rw [X1]; exact .inr (.inr rfl)
      have hy := run_yield (P := E.P) (args := #[.int .i64 (j : Int), .int .i64 (l[j]?.getD 0)]) hl1 (by rw [hrec]; rfl)
      rw [hrec] at hy
      let a1 : Act := ((wd a []).put (some p0) (.int .i64 (j : Int))).put (some p1) (.int .i64 (l[j]?.getD 0))
      obtain ⟨t1, n1, _⟩ := put_tr (a := wd a []) (d := some p0) (v := .fz (.int .i64) (j : Int)) (u := .int .i64 (j : Int)) (N := E.N) T1 hN (by show Nat.blt p0 E.N = true; simpa using hp0) (by unfold Rel; exact ⟨_, rfl, rfl⟩)
      obtain ⟨t2, n2, _⟩ := put_tr (d := some p1) (v := .fz (.int .i64) (l[j]?.getD 0)) (u := .int .i64 (l[j]?.getD 0)) (N := E.N) t1 n1 (by show Nat.blt p1 E.N = true; simpa using hp1) (by unfold Rel; exact ⟨_, rfl, rfl⟩)
      refine ⟨fn, a1.tmps, assign, body, ?_, roundIn_of_wpIn trivial ?_⟩
      · show _ = Result.ok (Next.round (D + 1) fn ((a.tmps.setIfInBounds p0 _).setIfInBounds p1 _) assign body) c1.w
        simpa using hy
      have hsim : Sim A.length c1 E.N ⟨(p1, .fz (.int .i64) (l[j]?.getD 0)) :: (p0, .fz (.int .i64) (j : Int)) :: T, S k⟩ a1 c1.w := ⟨c1, rfl, hA1, H1, t2, ExtN.refl (by rw [hA1, hSl k hkl]; exact Nat.le_refl _), rfl, n2⟩
      refine wpIn_mono (awp_sound_in ok1 (some (D + 1)) _ c1 hG1 assign nda _ _ _ _ (hround k j hkj) hsim) fun e a' w' ⟨σ1, hq, hs1⟩ => ?_
      cases e with
      | normal =>
        obtain ⟨c2, rfl, hA2, H2, hT2, hE2, hd2, hN2⟩ := hs1
        have x2 : c2.X (D + 1) := by rw [hE2.X]; exact x1
        have hl2 : c2.w.heap[D + 1]? = some (.loop (rec .ready)) := (hE2.far _ x1).trans hl1
        refine ⟨_, run_beginRound hl2 (by rw [hrec]), ?_⟩
        obtain ⟨o2, ho2⟩ : ∃ o2, o2 = Obj.loop { rec .ready with state := .busy } := ⟨_, rfl⟩
        rw [← ho2]
        have t2' := turn_put H2 x2 o2
        have H2' := t2'.hr H2
        have hl2' : (c2.w.putObj (D + 1) o2).heap[D + 1]? = some o2 := World.putObj_heap_same (some_lt hl2)
        refine wpIn_mono (awp_sound_in ok1 (some (D + 1)) _ { c2 with w := c2.w.putObj (D + 1) o2 } (hE2.G.trans hG1) body ndb _ σ1 a' _ hq ⟨{ c2 with w := c2.w.putObj (D + 1) o2 }, rfl, hA2, H2', hT2.le t2'.le, ExtN.refl hE2.le.len, hd2, hN2⟩) fun e a3 w3 ⟨σ3, hq3, hs3⟩ => ?_
        cases e with
        | normal =>
          obtain ⟨c3, rfl, hA3, H3, hT3, hE3, hd3, hN3⟩ := hs3
          obtain ⟨_, hq3⟩ : ∃ _u : Unit, Ent A.length σ3 ⟨[], S (k + 1)⟩ := hq3
          obtain ⟨c4, hw4, hE4, H4, hA4, _⟩ := hq3 c3 H3 hA3 hE3.le.len _ hT3
          have hl3 : c3.w.heap[D + 1]? = some o2 := (hE3.far _ x2).trans hl2'
          rw [ho2] at hl3
          have hr3 := run_endRound (P := E.P) none hl3
          have e3 : ({ { rec .ready with state := .busy } with state := if (none : Option Code).isNone then .ready else .done, pending := none } : Loop) = rec .ready := by rw [hrec]; rfl
          rw [e3] at hr3
          refine ⟨_, _, hr3, rfl, ?_⟩
          have x3 : c3.X (D + 1) := by rw [hE3.X]; exact x2
          have x4 : c4.X (D + 1) := by rw [hE4.X]; exact x3
          have t4 := turn_put H4 x4 (.loop (rec .ready))
          rw [hJ, ← hw4]
          refine ⟨by omega, { c4 with w := c4.w.putObj (D + 1) (.loop (rec .ready)) }, rfl, t4.hr H4, hA4, ?_, ?_, ?_, ?_, ?_, ?_⟩
          · have l3 := le_trans hE4.le t4.le hE4.le.len
            have l2 := le_trans hE3.le l3 (Nat.le_refl _)
            have l1 := le_trans (t2'.le.lower hE2.le.len) l2 (Nat.le_refl _)
            exact le_trans le1 (le_trans hE2.le l1 (Nat.le_refl _)) (Nat.le_refl _)
          · exact hE4.X.trans (hE3.X.trans (hE2.X.trans X1))
          · exact hE4.G.trans (hE3.G.trans (hE2.G.trans G1))
          · exact st1.trans (hE2.st.trans ((same_put _ _ _).trans (hE3.st.trans (hE4.st.trans (same_put _ _ _)))))
          · intro b hb hne
            have y1 : c1.X b := by rw [X1]; exact hb
            have y2 : c2.X b := by rw [hE2.X]; exact y1
            have y3 : c3.X b := by rw [hE3.X]; exact y2
            refine (World.putObj_heap_other hne).trans ((hE4.far b y3).trans ((hE3.far b y2).trans ?_))
            exact (World.putObj_heap_other hne).trans ((hE2.far b y1).trans (far1 b hb hne))
          · exact World.putObj_heap_same (by rw [hw4]; exact some_lt hl3)
        | _ => exact hq3.elim
      | _ => exact hq.elim
    · -- behind the iterator
      rintro e W' ⟨⟨v, rfl⟩, hk⟩
      rw [hJ] at hk
      obtain ⟨hkl, c1, rfl, H1, hA1, le1, X1, G1, st1, far1, hl1⟩ := hk
      have x1 : c1.X (D + 1) := by rw [X1]; exact .inr (.inr rfl)
      have hr := run_endLoop (P := E.P) hl1 (by rw [hrec]; simp)
      have pend : (rec .ready).pending = none := by rw [hrec]
      rw [pend] at hr
      refine ⟨none, _, hr, ?_⟩
      show QQ .normal _ (c1.w.putObj (D + 1) (.loop { rec .ready with state := .exhausted, pending := none }))
      generalize Obj.loop { rec .ready with state := .exhausted, pending := none } = o1
      have t1 := turn_put H1 x1 o1
      have T1 : TR c1 T a.tmps := TD.le (by rw [hlen]; exact le1)
      have hl1' : A.length ≤ c1.A.length := le1.len
      have := hQQ D { c1 with w := c1.w.putObj (D + 1) o1 } ⟨?_, ?_, ?_, ?_, ?_, ?_, ?_, ?_, ?_⟩ (t1.hr H1) hA1 (T1.le t1.le) hN
      · unfold wd at this
        show QQ .normal { a with defers := [{ target := .collected D, args := #[] }] ++ a.defers } _
        rw [hd]; exact this
      · have l1 := le_trans le1 t1.le hl1'
        have l2 := le_trans tD.le l1 (Nat.le_of_eq (congrArg List.length hA))
        exact le_trans hE.le l2 hE.le.len
      · exact G1.trans hE.G
      · intro b hb
        show c1.X b
        rw [X1]; exact .inl (by rw [hE.X]; exact hb)
      · show c1.X D
        rw [X1]; exact .inr (.inl rfl)
      · exact (World.putObj_heap_other (by omega)).trans ((far1 D (.inr (.inl rfl)) (by omega)).trans hD1)
      · intro hx
        have := H.old D (by rw [hE.X]; exact hx)
        omega
      · intro b hI hb
        obtain ⟨k1, k2⟩ := hE.le.I b hI hb
        have := heap_lt hb k2
        omega
      · intro b hb
        have hb' : c.X b := by rw [hE.X]; exact hb
        have := H.old b hb'
        exact (World.putObj_heap_other (by omega)).trans ((far1 b (.inl hb') (by omega)).trans ((hold b this).trans (hE.far b hb)))
      · exact hE.st.trans (sD.trans (st1.trans (same_put _ _ _)))
end Go.Ab
/-
  Functions in which a range over slices.Backward stands.
-/
namespace Go.Ab
open Go Go.RowKit Go.Shelf
def hasRF : Code → Bool
  | .rangeFunc _ _ _ _ => true
  | .seq x y => hasRF x || hasRF y
  | .block _ c => hasRF c
  | _ => false
/-- the loop stands where it may, and what follows it is calm -/
def okRF : Code → Bool
  | .rangeFunc _ ps x y => ndC x && ndC y && Nat.beq ps.size 2
  | .seq x y => match hasRF x with
    | true => okRF x && calmC y
    | false => okRF y
  | .block _ c => okRF c
  | _ => true
def RFc (E : Env) (f : Nat) (g : Operand) (p0 p1 : Nat) (assign body : Code) (M : St → Prop) (σ : St) : Prop :=
  ∃ (T : List (Nat × AV)) (A : List AO) (tok : Nat) (l : List Int) (S : Nat → List AO), Ent E.n0 σ ⟨T, A⟩ ∧ (Nat.blt p0 E.N = true ∧ Nat.blt p1 E.N = true) ∧ ev T g = .fn f [.ptr tok 0] ∧ 0 < l.length ∧ l.length * 8 ≤ 140737488351232 ∧ S 0 = A ∧
    (∀ k, k ≤ l.length → (S k)[tok]? = some (.box [.fz (.list (.int .i64)) l])) ∧ (∀ k, k ≤ l.length → (S k).length = A.length) ∧
    (∀ k j, k + j + 1 = l.length → awp ⟨E.P, E.D, E.G, E.N, A.length, E.cuts⟩ assign (thenQ (awp ⟨E.P, E.D, E.G, E.N, A.length, E.cuts⟩ body (rndQ A.length (S (k + 1)))) fun _ _ => False) ⟨(p1, .fz (.int .i64) (l[j]?.getD 0)) :: (p0, .fz (.int .i64) (j : Int)) :: T, S k⟩) ∧
    M ⟨T, S l.length⟩
def awpR (E : Env) (f : Nat) : Code → (Exit → St → Prop) → (Exit → St → Prop) → St → Prop
  | .seq x y, Q, M, σ => match hasRF x with
    | true => awpR E f x (thenQ (awp E y Q) Q) (thenQ (awp E y M) M) σ
    | false => awp E x (thenQ (awpR E f y Q M) Q) σ
  | .block id c, Q, M, σ => awpR E f c (blkQ id Q) (blkQ id M) σ
  | .rangeFunc g ⟨[p0, p1]⟩ x y, _, M, σ => RFc E f g p0 p1 x y (M .normal) σ
  | .rangeFunc _ _ _ _, _, _, _ => False
  | c, Q, _, σ => awp E c Q σ
def PostR (E : Env) (c0 : Cx) (Q M : Exit → St → Prop) : Exit → Act → World → Prop := fun e a w => Post E c0 Q e a w ∨ ∃ D c1, Mid E.n0 c0 c1 D ∧ PostD E c1 M [{ target := .collected D, args := #[] }] e a w
theorem post_blk {E : Env} {c0 : Cx} {Q : Exit → St → Prop} {id : Nat} {e : Exit} {a : Act} {w : World} (h : Post E c0 (blkQ id Q) e a w) : Exit.inBlock id (Post E c0 Q) e a w := by
  obtain ⟨σ', hq, hs'⟩ := h
  cases e with
  | exit i =>
    show if i = id then _ else _
    have hq : (match Nat.beq i id with | true => Q .normal σ' | false => Q (.exit i) σ') := hq
    by_cases hi : i = id
    · rw [if_pos hi]
      have : Nat.beq i id = true := by rw [hi]; simp
      rw [this] at hq; exact ⟨σ', hq, hs'⟩
    · rw [if_neg hi]
      have : Nat.beq i id = false := by
        cases hb : Nat.beq i id with
        | false => rfl
        | true => exact absurd (beq_eq hb) hi
      rw [this] at hq; exact ⟨σ', hq, hs'⟩
  | _ => exact ⟨σ', hq, hs'⟩
theorem inBlock_mono {id : Nat} {Q Q' : Exit → Act → World → Prop} (h : ∀ e a w, Q e a w → Q' e a w) : ∀ e a w, Exit.inBlock id Q e a w → Exit.inBlock id Q' e a w := fun e a w hq => by
  cases e with
  | exit i =>
    have hq : (if i = id then Q .normal a w else Q (.exit i) a w) := hq
    show if i = id then Q' .normal a w else Q' (.exit i) a w
    by_cases hi : i = id
    · rw [if_pos hi] at hq ⊢; exact h _ _ _ hq
    · rw [if_neg hi] at hq ⊢; exact h _ _ _ hq
  | _ => exact h _ _ _ hq
theorem awpR_sound {E : Env} (ok : EnvOk E) {f : Nat} (hback : BackOk E.P f) (hent : ∀ args w, (callFunc f args).run E.P w = .ok (.enter f args) w) (c0 : Cx) (hG : c0.G = E.G) : ∀ (c : Code), okRF c = true → ∀ (Q M : Exit → St → Prop) (σ : St) (a : Act) (w : World), awpR E f c Q M σ → Sim E.n0 c0 E.N σ a w → c.wpIn (FR none) 2 E.P (PostR E c0 Q M) a w := by
  have plain : ∀ (c : Code) (Q M : Exit → St → Prop) (σ : St) (a : Act) (w : World), awp E c Q σ → Sim E.n0 c0 E.N σ a w → c.wpIn (FR none) 2 E.P (PostR E c0 Q M) a w := fun c Q M σ a w h hs =>
    wpIn_mono (wpIn_wide (n := 2) |>.2 (awp_sound ok c0 hG c Q σ a w h hs)) fun _ _ _ h => .inl h
  intro c
  induction c with
  | seq x y ihx ihy =>
    intro hok Q M σ a w h hs
    unfold okRF at hok
    unfold awpR at h
    cases hx : hasRF x with
    | true =>
      rw [hx] at hok h
      simp only [Bool.and_eq_true] at hok h
      refine wpIn_seq (wpIn_mono (ihx hok.1 _ _ σ a w h hs) fun e a' w' hp => ?_)
      rcases hp with ⟨σ', hq, hs'⟩ | ⟨D, c1, hm, a0, rfl, σ', hq, hs'⟩
      · cases e with
        | normal => exact plain y Q M σ' a' w' hq hs'
        | _ => exact .inl ⟨σ', hq, hs'⟩
      · cases e with
        | normal => exact wpIn_mono (awp_sound_ds ok _ 2 c1 (hm.G.trans hG) y hok.2 M σ' a0 w' hq hs') fun e a w h => .inr ⟨D, c1, hm, h⟩
        | _ => exact .inr ⟨D, c1, hm, a0, rfl, σ', hq, hs'⟩
    | false =>
      rw [hx] at hok h
      simp only at hok h
      refine wpIn_seq (wpIn_mono (wpIn_wide (n := 2) |>.2 (awp_sound ok c0 hG x _ σ a w h hs)) fun e a' w' ⟨σ', hq, hs'⟩ => ?_)
      cases e with
      | normal => exact ihy hok Q M σ' a' w' hq hs'
      | _ => exact .inl ⟨σ', hq, hs'⟩
  | block id c ih =>
    intro hok Q M σ a w h hs
    refine wpIn_block (wpIn_mono (ih hok _ _ σ a w h hs) fun e a' w' hp => ?_)
    rcases hp with hp | ⟨D, c1, hm, a0, rfl, hp⟩
    · exact inBlock_mono (fun _ _ _ h => .inl h) _ _ _ (post_blk hp)
    · have := post_blk hp
      cases e with
      | exit i =>
        have this : (if i = id then Post E c1 M .normal a0 w' else Post E c1 M (.exit i) a0 w') := this
        show if i = id then _ else _
        by_cases hi : i = id
        · rw [if_pos hi] at this ⊢; exact .inr ⟨D, c1, hm, a0, rfl, this⟩
        · rw [if_neg hi] at this ⊢; exact .inr ⟨D, c1, hm, a0, rfl, this⟩
      | _ => exact .inr ⟨D, c1, hm, a0, rfl, this⟩
  | rangeFunc g ps x y _ _ =>
    intro hok Q M σ a w h hs
    obtain ⟨ps⟩ := ps
    match ps, hok, h with
    | [p0, p1], hok, h =>
      unfold okRF at hok
      simp only [Bool.and_eq_true] at hok
      obtain ⟨T, A, tok, l, S, he, ⟨h0, h1⟩, hg, hl, h8, hS0, hSt, hSl, hr, hM⟩ := h
      have hs' : Sim E.n0 c0 E.N ⟨T, A⟩ a w := by
        obtain ⟨cx, hw, hA, H, hT, hE, hd, hN⟩ := hs
        obtain ⟨c', k1, k2, k3, k4, k5⟩ := he cx H hA hE.le.len _ hT
        exact ⟨c', k1.trans hw, k4, k3, k5, hE.trans k2, hd, hN⟩
      have hd : a.defers = [] := by obtain ⟨_, _, _, _, _, _, hd, _⟩ := hs; exact hd
      refine rf_wp ok hback hent hok.1.1 hok.1.2 hG (by simpa using h0) (by simpa using h1) hg hl h8 S hS0 hSt hSl hr hs' fun D c1 hm H1 hA1 hT1 hN1 => ?_
      refine .inr ⟨D, c1, hm, a, rfl, ⟨T, S l.length⟩, hM, c1, rfl, hA1, H1, hT1, ExtN.refl hm.le.len, hd, hN1⟩
    | [], _, h => exact h.elim
    | [_], _, h => exact h.elim
    | _ :: _ :: _ :: _, _, h => exact h.elim
  | _ => intro _ Q M σ a w h hs; exact plain _ Q M σ a w h hs
/-! ### functions -/
theorem fin_ok {E : Env} (ok : EnvOk E) {cx : Cx} (hG : cx.G = E.G) (hn0 : E.n0 = cx.A.length) {fn : Func} {K : AV → List AO → Prop} {σ : St} {tmps : Array Value} {c1 : Cx} (hA1 : c1.A = σ.A) (H1 : HR c1) (hT1 : TR c1 σ.T tmps) (hE1 : ExtN E.n0 cx c1)
    (h : runL (resVs E.D E.G σ.A σ.T fn.results.toList) (fun r => Done E K r σ.A)) : ∃ v, (results fn tmps).run E.P c1.w = .ok v c1.w ∧ ∃ v_1 c' r, Ending.returned v = .returned v_1 ∧ c'.w = c1.w ∧ Ext cx c' ∧ HR c' ∧ Rel c' r v_1 ∧ K r c'.A := by
  obtain ⟨hC, hK⟩ := runL_of h
  have hG1 : c1.G = E.G := hE1.G.trans hG
  rw [← hA1, ← hG1] at hC hK
  obtain ⟨us, k1, k2⟩ := resVs_sound ok.tab H1 hT1 fn.results.toList hC
  obtain ⟨r', A', he, hk⟩ := hK
  have hrun : ∃ v, (results fn tmps).run E.P c1.w = .ok v c1.w ∧ Rel c1 (retV (resVs E.D c1.G c1.A σ.T fn.results.toList).2) v := by
    have hl := k2.length
    have hm : (fn.results.mapM (resOf tmps)).run E.P c1.w = .ok us.toArray c1.w := by
      rw [Array.mapM_eq_mapM_toList, Sem.run_map, k1]; rfl
    refine ⟨if h : us.toArray.size = 1 then us.toArray[0] else .tuple us.toArray, ?_, ?_⟩
    · rw [results_eq]
      simp only [Sem.run_bind, hm, Result.andThen_ok, Sem.run_pure]
    · generalize (resVs E.D c1.G c1.A σ.T fn.results.toList).2 = rs at *
      match rs, us, k2, hl with
      | [], [], _, _ => simp; unfold retV Rel; exact ⟨[], rfl, by unfold RelL; rfl⟩
      | [r], [u], h, _ => simp; unfold RelL at h; obtain ⟨v, l, e, h1, _⟩ := h; cases e; exact h1
      | r :: r2 :: rs, u :: u2 :: us, h, _ =>
        rw [dif_neg (by simp)]
        unfold retV Rel
        exact ⟨_, rfl, h⟩
  obtain ⟨v, hv1, hv2⟩ := hrun
  obtain ⟨c2, j1, j2, j3, j4, j5⟩ := he c1 H1 rfl hE1.le.len v hv2
  refine ⟨v, hv1, v, c2, r', rfl, j1, ?_, j3, j5, by rw [j4]; exact hk⟩
  have := hE1.trans j2
  rw [hn0] at this
  exact ⟨this.le, this.X, this.G, this.far, this.st⟩
theorem acall_mkR {E : Env} (ok : EnvOk E) {f : FuncId} {fn : Func} {c : Code} {args : List AV} {A : List AO} {K : AV → List AO → Prop} {bf : Nat} (hback : BackOk E.P bf) (hent : ∀ args w, (callFunc bf args).run E.P w = .ok (.enter bf args) w) (hf : E.P.funcs[f]? = some fn) (hb : fn.body = some c) (hnm : (fn.name == "runtime.NumGoroutine") = false) (hN : fn.ntmps = E.N) (hle : Nat.ble args.length E.N = true) (hn0 : A.length = E.n0) (hok : okRF c = true)
    (h : awpR E bf c (retQ E fn.results.toList K) (retQ E fn.results.toList K) ⟨zipT args 0, A⟩) : ACall E.P E.G f args A K := by
  refine ⟨trivial, fun cx H hA hG vs hv => .inl ⟨⟨fn, hf, by rw [hb]; rfl, hnm⟩, ?_⟩⟩
  have hvl := hv.length
  have hle := Nat.le_of_ble_eq_true hle
  refine callsIn_wide (n := 2) |>.1 (callsIn_of_wp_marks hf hb trivial ?_ rfl)
  have hs : Sim E.n0 cx E.N ⟨zipT args 0, A⟩ { tmps := vs.toArray ++ Array.replicate (fn.ntmps - vs.toArray.size) undef, defers := [] } cx.w := by
    refine ⟨cx, rfl, hA, H, fun n => ?_, ExtN.refl (by rw [hA]; omega), rfl, by simp [hN]; omega⟩
    show Rel cx (lk (zipT args 0) n) _
    rw [zipT_lk, if_pos (Nat.zero_le _), Nat.sub_zero]
    by_cases hlt : n < args.length
    · obtain ⟨v, k1, k2⟩ := hv.get _ _ n args[n] (List.getElem?_eq_getElem hlt)
      have e1 : args.getD n .unk = args[n] := getD_of_lt hlt
      rw [e1]
      have : (vs.toArray ++ Array.replicate (fn.ntmps - vs.toArray.size) undef).getD n undef = v := by
        rw [Array.getD_eq_getD_getElem?, Array.getElem?_append_left (by simp; omega)]
        simp [k1]
      rw [this]; exact k2
    · have e1 : args.getD n .unk = .unk := by rw [List.getD, List.getElem?_eq_none (by omega)]; rfl
      rw [e1]; exact rel_unk
  have hn : E.n0 = cx.A.length := by rw [hA]; exact hn0.symm
  refine wpIn_mono (awpR_sound ok hback hent cx hG c hok _ _ _ _ _ h hs) fun e a w hp => ?_
  rcases hp with ⟨σ, hq, c1, rfl, hA1, H1, hT1, hE1, hd1, _⟩ | ⟨D, c1, hm, a0, rfl, σ, hq, c2, rfl, hA2, H2, hT2, hE2, hd2, _⟩
  · have fin := fun h => fin_ok (K := K) (fn := fn) ok hG hn hA1 H1 hT1 hE1 h
    cases e with
    | normal => show LeavesInM _ _ _ _ _ _ a.defers _ _; rw [hd1]; exact fin hq
    | ret => show LeavesInM _ _ _ _ _ _ a.defers _ _; rw [hd1]; exact fin hq
    | _ => exact hq.elim
  · have x2 : c2.X D := by rw [hE2.X]; exact hm.XD
    have d2 : c2.w.heap[D]? = some (.deferred (some [])) := (hE2.far D hm.XD).trans hm.dfr
    have xs : ∀ b, cx.X b → c2.X b := fun b hb => by rw [hE2.X]; exact hm.X b hb
    have t : Turn c2 { c2 with X := cx.X, w := c2.w.putObj D (.deferred none) } := by
      refine ⟨rfl, rfl, rfl, fun b hI _ => ⟨⟨fun hx => hI.1 (xs b hx), hI.2⟩, World.putObj_heap_other (fun e => hI.1 (e ▸ x2))⟩, fun t b hl hb => ⟨fun hx => H2.far t b hl hb (xs b hx), World.putObj_heap_other (fun e => H2.far t b hl hb (e ▸ x2))⟩, fun b hb => ?_⟩
      have := H2.old b (xs b hb)
      show b < (c2.w.putObj D (.deferred none)).heap.size
      simpa using this
    have hE3 : ExtN E.n0 cx { c2 with X := cx.X, w := c2.w.putObj D (.deferred none) } := by
      refine ⟨le_trans hm.le (le_trans hE2.le t.le hE2.le.len) (Nat.le_refl _), rfl, hE2.G.trans hm.G, fun b hb => ?_, hm.st.trans (hE2.st.trans (same_put _ _ _))⟩
      exact (World.putObj_heap_other (show b ≠ D from fun e => hm.notX (by rw [← e]; exact hb))).trans ((hE2.far b (hm.X b hb)).trans (hm.far b hb))
    have fin := fun h => fin_ok (K := K) (fn := fn) ok hG hn (c1 := { c2 with X := cx.X, w := c2.w.putObj D (.deferred none) }) hA2 (t.hr H2) (hT2.le t.le) hE3 h
    cases e with
    | normal => exact ⟨by simp, .inl ⟨D, _, rfl, run_takeDeferred d2, fin hq⟩⟩
    | ret => exact ⟨by simp, .inl ⟨D, _, rfl, run_takeDeferred d2, fin hq⟩⟩
    | _ => exact hq.elim
end Go.Ab
/-
  Maps: an object that is turned; what the operations on maps do.
-/
namespace Go.Ab
open Go Go.ChangeMaps Go.Maps
theorem rel_ptr_map {c : Cx} {tok off : Nat} {i : MI} {vs : List AV} {v : Value} (h0 : c.A[tok]? = some (.mapo i vs)) (h : Rel c (.ptr tok off) v) : ∃ b, c.ρ tok = some b ∧ v = MI.val b i.isIter := by
  unfold Rel at h; rw [h0] at h; exact h
theorem rel_map_ptr {c : Cx} {tok off b : Nat} {i : MI} {vs : List AV} (h0 : c.A[tok]? = some (.mapo i vs)) (h : c.ρ tok = some b) : Rel c (.ptr tok off) (MI.val b i.isIter) := by
  unfold Rel; rw [h0]; exact ⟨b, h, rfl⟩
/-! ### an object of the model's own is turned -/
def Cx.wrO (c : Cx) (tok b : Nat) (ob : Obj) (o : AO) : Cx := { c with w := { c.w with heap := c.w.heap.setIfInBounds b ob }, A := c.A.set tok o }
section
variable {c : Cx} {tok b : Nat} {ob : Obj} {i j : MI} {vs us : List AV}
theorem wrO_other {o : AO} {k : Nat} (h : k ≠ b) : (c.wrO tok b ob o).w.heap[k]? = c.w.heap[k]? := by
  show (c.w.heap.setIfInBounds b ob)[k]? = _
  rw [Array.getElem?_setIfInBounds_ne (fun e => h e.symm)]
theorem wrO_self {o : AO} (h : b < c.w.heap.size) : (c.wrO tok b ob o).w.heap[b]? = some ob := by
  show (c.w.heap.setIfInBounds b ob)[b]? = _
  rw [Array.getElem?_setIfInBounds_self]; simp [h]
theorem wrO_live (h0 : c.A[tok]? = some (.mapo i vs)) {t : Nat} (h : (c.wrO tok b ob (.mapo j us)).live t) : c.live t := by
  obtain ⟨x, h1, h2⟩ := h
  by_cases ht : tok = t
  · subst ht; exact ⟨_, h0, rfl⟩
  · refine ⟨x, ?_, h2⟩
    have : (c.A.set tok (.mapo j us))[t]? = some x := h1
    rwa [List.getElem?_set_ne ht] at this
theorem ext_wrO (H : HR c) (h0 : c.A[tok]? = some (.mapo i vs)) (hk : i.isIter = j.isIter) (hr : c.ρ tok = some b) : Ext c (c.wrO tok b ob (.mapo j us)) := by
  have hlive : c.live tok := ⟨_, h0, rfl⟩
  have hX := H.far tok b hlive hr
  refine ⟨⟨fun k hI hk => ⟨⟨hI.1, fun t ht => hI.2 t (wrO_live h0 ht)⟩, wrO_other (fun e => ?_)⟩, fun t ht => ?_, by show _ ≤ (c.A.set tok _).length; simp⟩, rfl, rfl, fun k hk => wrO_other (fun e => ?_), ⟨rfl, rfl, rfl⟩⟩
  · subst e; exact hI.2 tok hlive hr
  · unfold TokLe
    by_cases htt : tok = t
    · subst htt
      have : (c.wrO tok b ob (.mapo j us)).A[tok]? = some (.mapo j us) := by show (c.A.set tok _)[tok]? = _; rw [List.getElem?_set_self ht]
      rw [this]
      exact .inl ⟨⟨i, vs, h0, hk⟩, rfl⟩
    · have : (c.wrO tok b ob (.mapo j us)).A[t]? = c.A[t]? := by show (c.A.set tok _)[t]? = _; rw [List.getElem?_set_ne htt]
      rw [this]
      have ht0 := TokLe.refl ht
      unfold TokLe at ht0
      cases hA : c.A[t]? with
      | none => rw [hA] at ht0; exact ht0
      | some x =>
        rw [hA] at ht0
        cases x with
        | dead => trivial
        | room => exact ht0
        | box vs => exact ht0
        | mapo i vs => exact ht0
        | row e xs =>
          simp only at ht0 ⊢
          rcases ht0 with ht0 | ht0
          rotate_left
          · exact .inr ht0
          refine .inl ⟨ht0.1, rfl, fun b' cs' et' hb' hc => ?_⟩
          by_cases hbb : b' = b
          · subst hbb
            exact absurd (H.inj tok t b' hlive ⟨_, hA, rfl⟩ hr hb') htt
          · exact ⟨cs', (wrO_other hbb).trans hc, rfl⟩
  · subst e; exact hX hk
theorem hr_wrO (H : HR c) (h0 : c.A[tok]? = some (.mapo i vs)) (hk : i.isIter = j.isIter) (hr : c.ρ tok = some b) (ho : ObjOk (c.wrO tok b ob (.mapo j us)) (some b) (.mapo j us)) : HR (c.wrO tok b ob (.mapo j us)) := by
  have E := ext_wrO (ob := ob) (us := us) H h0 hk hr
  have hlive : c.live tok := ⟨_, h0, rfl⟩
  have htl := get_lt h0
  refine ⟨fun t k ht hk => H.far t k (wrO_live h0 ht) hk, fun t u k ht hu h1 h2 => H.inj t u k (wrO_live h0 ht) (wrO_live h0 hu) h1 h2, fun t x h => ?_, fun k hk => ?_, fun g v h => ?_⟩
  · by_cases htt : tok = t
    · subst htt
      have : (c.wrO tok b ob (.mapo j us)).A[tok]? = some (.mapo j us) := by show (c.A.set tok _)[tok]? = _; rw [List.getElem?_set_self htl]
      rw [this] at h; cases h
      show ObjOk _ (c.ρ tok) _
      rw [hr]; exact ho
    · have : (c.wrO tok b ob (.mapo j us)).A[t]? = c.A[t]? := by show (c.A.set tok _)[t]? = _; rw [List.getElem?_set_ne htt]
      rw [this] at h
      refine objOk_ext E (H.obj t x h) (fun hxl k hk => wrO_other (fun e => ?_))
      subst e
      exact htt (H.inj tok t k hlive ⟨x, h, hxl⟩ hr hk)
  · show k < (c.w.heap.setIfInBounds b ob).size
    rw [Array.size_setIfInBounds]; exact H.old k hk
  · exact (H.glo g v h).mono E.le.I
end
/-! ### the operations -/
section
variable {P : Program} {G : List (Nat × Value)} {A : List AO} {T : List (Nat × AV)} {Kk : AV → List AO → Prop}
theorem aact_make {t : TypeId} (h : ∀ b, Kk (.ptr A.length 0) (A ++ [.mapo (.map b 0 []) []])) : AAct P G A T (.makeMap t none) Kk := by
  refine ⟨?_⟩
  rintro c a ⟨dst, op, type, pos, after, guard⟩ H hA hG rfl hT
  have E := ext_newO H (.map #[] 0) (.mapo (.map c.w.heap.size 0 []) [])
  have hn : (c.newO (.map #[] 0) (.mapo (.map c.w.heap.size 0 []) [])).A[c.A.length]? = some (.mapo (.map c.w.heap.size 0 []) []) := newO_A_new
  refine ⟨c.newO (.map #[] 0) (.mapo (.map c.w.heap.size 0 []) []), .value (.map (some c.w.heap.size)), _, .ptr c.A.length 0, ?_, .inl rfl, E, hr_newO H ?_, rel_map_ptr (b := c.w.heap.size) hn newO_ρ_new, ?_⟩
  · simp [execOp, Instr.makeMap, newObj, Sem.run]; rfl
  · exact ⟨c.w.heap.size, _, [], rfl, newO_heap_new, ⟨rfl, #[], rfl, rfl, rfl, fun e he => by cases he⟩, by unfold RelL; rfl⟩
  · have := h c.w.heap.size
    subst hA; exact this
theorem mok_map {bm clock b : Nat} {ks : List (Nat × Value)} {o : Obj} {us : List Value} (h : MOk (.map bm clock ks) b o us) : b = bm ∧ ∃ es : Array MapEntry, o = .map es clock ∧ es.toList.map (fun e => (e.born, e.key)) = ks ∧ es.toList.map (·.val) = us ∧ ∀ e ∈ es.toList, e.born < clock := h
/-- what the state knows of a map -/
theorem map_at {c : Cx} (H : HR c) {tok off bm clock : Nat} {ks : List (Nat × Value)} {vs : List AV} {v : Value} (h0 : c.A[tok]? = some (.mapo (.map bm clock ks) vs)) (hr : Rel c (.ptr tok off) v) :
    v = .map (some bm) ∧ c.ρ tok = some bm ∧ ∃ es : Array MapEntry, c.w.heap[bm]? = some (.map es clock) ∧ es.toList.map (fun e => (e.born, e.key)) = ks ∧ RelL c vs (es.toList.map (·.val)) ∧ ∀ e ∈ es.toList, e.born < clock := by
  obtain ⟨b, h1, rfl⟩ := rel_ptr_map h0 hr
  obtain ⟨b', ob, us, h2, h3, h4, h5⟩ := H.obj tok _ h0
  rw [h1] at h2; cases h2
  obtain ⟨rfl, es, rfl, k1, rfl, k2⟩ := mok_map h4
  exact ⟨rfl, h1, es, h3, k1, h5, k2⟩
end
/-! ### look-up, store -/
section
variable {P : Program} {G : List (Nat × Value)} {A : List AO} {T : List (Nat × AV)} {Kk : AV → List AO → Prop}
theorem ix_map {es : Array MapEntry} {ks : List (Nat × Value)} (h : es.toList.map (fun e => (e.born, e.key)) = ks) {j : Nat} {e : MapEntry} (he : es.toList[j]? = some e) : ks[j]? = some (e.born, e.key) := by
  rw [← h, List.getElem?_map, he]; rfl
theorem mem_map_of {es : Array MapEntry} {ks : List (Nat × Value)} (h : es.toList.map (fun e => (e.born, e.key)) = ks) {p : Nat × Value} (hp : p ∈ ks) : ∃ e ∈ es.toList, p = (e.born, e.key) := by
  rw [← h] at hp
  obtain ⟨e, h1, h2⟩ := List.mem_map.1 hp
  exact ⟨e, h1, h2.symm⟩
theorem RelL.get' {c : Cx} {l : List AV} {vs : List Value} (h : RelL c l vs) {i : Nat} {v : Value} (hi : vs[i]? = some v) : ∃ a, l[i]? = some a ∧ Rel c a v := by
  have hl := RelL.length l vs h
  have hlt : i < l.length := by have := get_lt hi; omega
  obtain ⟨v', h1, h2⟩ := RelL.get l vs i l[i] h (List.getElem?_eq_getElem hlt)
  rw [hi] at h1; cases h1
  exact ⟨_, List.getElem?_eq_getElem hlt, h2⟩
theorem aact_lookup {t kt et : TypeId} {x k : Operand} {ok : Bool} {tok off bm clock : Nat} {ks : List (Nat × Value)} {vs : List AV} {kv : Value} {z : AV}
    (hx : ev T x = .ptr tok off) (ho : A[tok]? = some (.mapo (.map bm clock ks) vs)) (ht : P.underlying t = some (.map kt et)) (K : Keyed P kt)
    (hk : ∀ c v, Rel c (ev T k) v → v = kv) (hkl : ∃ l, keyOf P kt kv = some l) (hks : ∀ p ∈ ks, ∃ l, keyOf P kt p.2 = some l)
    (hz : ∀ c : Cx, ∃ zv, (zeroValue et).run P c.w = .ok zv c.w ∧ Rel c z zv)
    (h1 : (∀ p ∈ ks, p.2 ≠ kv) → Kk (if ok then .tup [z, .fz .bool false] else z) A)
    (h2 : ∀ (j : Nat) (p : Nat × Value) (a : AV), ks[j]? = some p → p.2 = kv → vs[j]? = some a → Kk (if ok then .tup [a, .fz .bool true] else a) A) : AAct P G A T (.lookup t x k ok) Kk := by
  refine ⟨?_⟩
  rintro c a ⟨dst, op, type, pos, after, guard⟩ H hA hG rfl hT
  have rx := hT x (by simp [Op.operands])
  have rk := hk c _ (hT k (by simp [Op.operands]))
  rw [hx] at rx
  subst hA
  obtain ⟨e1, hr, es, hb, hks', hvs, hold⟩ := map_at H ho rx
  obtain ⟨l, hl⟩ := hkl
  obtain ⟨zv, z1, z2⟩ := hz c
  have run : ∀ r : Option (Nat × Value), (Instr.findKey kt kv es.toList).run P c.w = .ok r c.w → (Instr.lookup t (a.eval x) (a.eval k) ok).run P c.w =
      .ok (match r with | some (_, v) => if ok then .tuple #[v, .bool true] else v | none => if ok then .tuple #[zv, .bool false] else zv) c.w := by
    intro r hf
    rw [e1, rk]
    cases r with
    | none => simp [Instr.lookup, run_underlying ht, MapKept.run_getObj_map hb, K.check c.w _ hl, hf, z1, Result.andThen]
    | some y => simp [Instr.lookup, run_underlying ht, MapKept.run_getObj_map hb, K.check c.w _ hl, hf, Result.andThen]
  rcases K.find c.w hl es.toList (fun e he => hks (e.born, e.key) (by rw [← hks']; exact List.mem_map.2 ⟨e, he, rfl⟩)) with ⟨f1, f2⟩ | ⟨j, e, f1, f2, f3⟩
  · have hK := h1 (fun p hp => by obtain ⟨e, he, rfl⟩ := mem_map_of hks' hp; exact f2 e he)
    refine ⟨c, _, _, _, by simp only [execOp, Sem.run_bind, run _ f1, Result.andThen_ok, Sem.run_pure]; rfl, .inl rfl, Ext.refl c, H, ?_, hK⟩
    cases ok
    · exact z2
    · simp only [if_true]
      unfold Rel; exact ⟨[zv, .bool false], rfl, by unfold RelL; exact ⟨_, _, rfl, z2, by unfold RelL; exact ⟨_, _, rfl, rel_bool.2 rfl, by unfold RelL; rfl⟩⟩⟩
  · obtain ⟨av, g1, g2⟩ := hvs.get' (i := j) (v := e.val) (by rw [List.getElem?_map, f2]; rfl)
    have hK := h2 j _ av (ix_map hks' f2) f3 g1
    refine ⟨c, _, _, _, by simp only [execOp, Sem.run_bind, run _ f1, Result.andThen_ok, Sem.run_pure]; rfl, .inl rfl, Ext.refl c, H, ?_, hK⟩
    cases ok
    · exact g2
    · simp only [if_true]
      unfold Rel; exact ⟨[e.val, .bool true], rfl, by unfold RelL; exact ⟨_, _, rfl, g2, by unfold RelL; exact ⟨_, _, rfl, rel_bool.2 rfl, by unfold RelL; rfl⟩⟩⟩
theorem run_setObj_map' {w : World} {r : Nat} {es : Array MapEntry} {clock : Nat} (o : Obj) (hb : w.heap[r]? = some (.map es clock)) : (setObj r o).run P w = .ok () { w with heap := w.heap.setIfInBounds r o } := by
  simp [setObj, Sem.run, hb]
theorem RelL.set {c : Cx} : ∀ {l : List AV} {vs : List Value} (j : Nat) {a : AV} {v : Value}, RelL c l vs → Rel c a v → RelL c (l.set j a) (vs.set j v)
  | [], vs, j, a, v, h, _ => by unfold RelL at h; subst h; simp; unfold RelL; rfl
  | b :: l, vs, 0, a, v, h, hr => by
    unfold RelL at h
    obtain ⟨u, r, rfl, h1, h2⟩ := h
    simp only [List.set_cons_zero]
    unfold RelL; exact ⟨v, r, rfl, hr, h2⟩
  | b :: l, vs, j + 1, a, v, h, hr => by
    unfold RelL at h
    obtain ⟨u, r, rfl, h1, h2⟩ := h
    simp only [List.set_cons_succ]
    unfold RelL; exact ⟨u, _, rfl, h1, RelL.set j h2 hr⟩
theorem aact_store {t kt et : TypeId} {x k y : Operand} {tok off bm clock : Nat} {ks : List (Nat × Value)} {vs : List AV} {kv : Value}
    (hx : ev T x = .ptr tok off) (ho : A[tok]? = some (.mapo (.map bm clock ks) vs)) (ht : P.underlying t = some (.map kt et)) (K : Keyed P kt)
    (hk : ∀ c v, Rel c (ev T k) v → v = kv) (hkl : ∃ l, keyOf P kt kv = some l) (hks : ∀ p ∈ ks, ∃ l, keyOf P kt p.2 = some l)
    (h1 : (∀ p ∈ ks, p.2 ≠ kv) → Kk .unk (A.set tok (.mapo (.map bm (clock + 1) (ks ++ [(clock, kv)])) (vs ++ [ev T y]))))
    (h2 : ∀ (j : Nat) (p : Nat × Value), ks[j]? = some p → p.2 = kv → Kk .unk (A.set tok (.mapo (.map bm clock ks) (vs.set j (ev T y))))) : AAct P G A T (.mapUpdate t x k y) Kk := by
  refine ⟨?_⟩
  rintro c a ⟨dst, op, type, pos, after, guard⟩ H hA hG rfl hT
  have rx := hT x (by simp [Op.operands])
  have rk := hk c _ (hT k (by simp [Op.operands]))
  have ry := hT y (by simp [Op.operands])
  rw [hx] at rx
  subst hA
  obtain ⟨e1, hr, es, hb, hks', hvs, hold⟩ := map_at H ho rx
  obtain ⟨l, hl⟩ := hkl
  have hlt := some_lt hb
  rcases K.find c.w hl es.toList (fun e he => hks (e.born, e.key) (by rw [← hks']; exact List.mem_map.2 ⟨e, he, rfl⟩)) with ⟨f1, f2⟩ | ⟨j, e, f1, f2, f3⟩
  · have hK := h1 (fun p hp => by obtain ⟨e, he, rfl⟩ := mem_map_of hks' hp; exact f2 e he)
    have E := ext_wrO (ob := .map (es.push { key := kv, val := a.eval y, born := clock }) (clock + 1)) (j := .map bm (clock + 1) (ks ++ [(clock, kv)])) (us := vs ++ [ev T y]) H ho rfl hr
    refine ⟨_, .skip, undef, .unk, ?_, .inr ⟨rfl, rfl⟩, E, hr_wrO H ho rfl hr ?_, rel_unk, hK⟩
    · simp [execOp, Instr.mapUpdate, e1, rk, run_underlying ht, MapKept.run_getObj_map hb, K.check c.w _ hl, f1, Result.andThen, run_setObj_map' _ hb]; rfl
    · refine ⟨bm, _, _, rfl, wrO_self hlt, ⟨rfl, _, rfl, ?_, rfl, ?_⟩, ?_⟩
      · simp [hks']
      · intro e he
        simp at he
        rcases he with he | rfl
        · have := hold e (by simpa using he); omega
        · simp
      · simp only [Array.toList_push, List.map_append, List.map_cons, List.map_nil]
        exact RelL.append _ _ _ _ (hvs.ext E) (by unfold RelL; exact ⟨_, _, rfl, ry.ext E, by unfold RelL; rfl⟩)
  · have hK := h2 j _ (ix_map hks' f2) f3
    have E := ext_wrO (ob := .map (es.modify j fun e => { e with key := kv, val := a.eval y }) clock) (j := .map bm clock ks) (us := vs.set j (ev T y)) H ho rfl hr
    refine ⟨_, .skip, undef, .unk, ?_, .inr ⟨rfl, rfl⟩, E, hr_wrO H ho rfl hr ?_, rel_unk, hK⟩
    · have hj : es[j]? = some e := by simpa using f2
      have hst := K.stays (P := P) c.w hl
      simp [execOp, Instr.mapUpdate, e1, rk, run_underlying ht, MapKept.run_getObj_map hb, K.check c.w _ hl, f1, Result.andThen, hj, f3, hst, run_setObj_map' _ hb]; rfl
    · have hmod : ∀ {β : Type} (g : MapEntry → β) (v : β), (∀ e', es.toList[j]? = some e' → g { e' with key := kv, val := a.eval y } = v) → (es.modify j fun e => { e with key := kv, val := a.eval y }).toList.map g = (es.toList.map g).set j v := by
        intro β g v hg
        apply List.ext_getElem?
        intro m
        rw [List.getElem?_map, List.getElem?_set]
        simp only [Array.toList_modify, List.getElem?_modify, List.length_map]
        by_cases hjm : j = m
        · subst hjm
          rw [f2, if_pos rfl, if_pos (get_lt f2)]
          simpa using hg e f2
        · rw [if_neg hjm, List.getElem?_map]
          cases es.toList[m]? with
          | none => rfl
          | some e' => simp [hjm]
      refine ⟨bm, _, _, rfl, wrO_self hlt, ⟨rfl, _, rfl, ?_, rfl, ?_⟩, ?_⟩
      · rw [hmod (fun e => (e.born, e.key)) (e.born, kv) (fun e' he' => by rw [f2] at he'; cases he'; rfl), hks']
        apply List.ext_getElem?
        intro m
        rw [List.getElem?_set]
        by_cases hjm : j = m
        · subst hjm
          rw [if_pos rfl, ix_map hks' f2, if_pos (get_lt (ix_map hks' f2)), f3]
        · rw [if_neg hjm]
      · intro e' he'
        obtain ⟨m, hm⟩ := List.getElem?_of_mem he'
        simp only [Array.toList_modify, List.getElem?_modify] at hm
        cases hem : es.toList[m]? with
        | none => rw [hem] at hm; simp at hm
        | some e2 =>
          rw [hem] at hm
          have hb2 := hold e2 (List.mem_of_getElem? hem)
          by_cases hjm : j = m
          · simp [hjm] at hm; rw [← hm]; exact hb2
          · simp [hjm] at hm; rw [← hm]; exact hb2
      · rw [hmod (·.val) (a.eval y) (fun e' _ => rfl)]
        exact RelL.set j (hvs.ext E) (ry.ext E)
end
/-! ### through a map -/
section
variable {P : Program} {G : List (Nat × Value)} {A : List AO} {T : List (Nat × AV)} {Kk : AV → List AO → Prop}
theorem aact_range {t kt et : TypeId} {x : Operand} {tok off bm clock : Nat} {ks : List (Nat × Value)} {vs : List AV}
    (hx : ev T x = .ptr tok off) (ho : A[tok]? = some (.mapo (.map bm clock ks) vs)) (ht : P.underlying t = some (.map kt et))
    (h : Kk (.ptr A.length 0) (A ++ [.mapo (.iter bm clock [] clock) []])) : AAct P G A T (.range t x) Kk := by
  refine ⟨?_⟩
  rintro c a ⟨dst, op, type, pos, after, guard⟩ H hA hG rfl hT
  have rx := hT x (by simp [Op.operands])
  rw [hx] at rx
  subst hA
  obtain ⟨e1, hr, es, hb, hks', hvs, hold⟩ := map_at H ho rx
  have hn : (c.newO (.mapIter (some bm) clock #[] clock) (.mapo (.iter bm clock [] clock) [])).A[c.A.length]? = some (.mapo (.iter bm clock [] clock) []) := newO_A_new
  refine ⟨c.newO (.mapIter (some bm) clock #[] clock) (.mapo (.iter bm clock [] clock) []), .value (.pointer (some ⟨c.w.heap.size, 0, none⟩)), _, .ptr c.A.length 0, ?_, .inl rfl, ext_newO H _ _, hr_newO H ?_, rel_map_ptr (b := c.w.heap.size) hn newO_ρ_new, h⟩
  · simp [execOp, Instr.range, e1, run_underlying ht, MapKept.run_getObj_map hb, newObj, Sem.run, Result.andThen]; rfl
  · exact ⟨c.w.heap.size, _, [], rfl, newO_heap_new, ⟨rfl, rfl, Nat.le_refl _⟩, by unfold RelL; rfl⟩
/-- what the state knows of one that goes through a map -/
theorem iter_at {c : Cx} (H : HR c) {tok off bm since last : Nat} {seen : List Nat} {vs : List AV} {v : Value} (h0 : c.A[tok]? = some (.mapo (.iter bm since seen last) vs)) (hr : Rel c (.ptr tok off) v) :
    ∃ b, v = .pointer (some ⟨b, 0, none⟩) ∧ c.ρ tok = some b ∧ c.w.heap[b]? = some (.mapIter (some bm) since seen.toArray last) ∧ vs = [] ∧ since ≤ last := by
  obtain ⟨b, h1, rfl⟩ := rel_ptr_map h0 hr
  obtain ⟨b', ob, us, h2, h3, ⟨rfl, rfl, h4⟩, h5⟩ := H.obj tok _ h0
  rw [h1] at h2; cases h2
  have := RelL.length _ _ h5
  exact ⟨b, rfl, h1, h3, List.eq_nil_of_length_eq_zero (by simpa using this.symm), h4⟩
theorem run_setObj_iter {w : World} {r : Nat} {m : Option Nat} {x : Nat} {s : Array Nat} {y : Nat} (o : Obj) (hb : w.heap[r]? = some (.mapIter m x s y)) : (setObj r o).run P w = .ok () { w with heap := w.heap.setIfInBounds r o } := by
  simp [setObj, Sem.run, hb]
theorem run_getObj_iter {w : World} {r : Nat} {m : Option Nat} {x : Nat} {s : Array Nat} {y : Nat} (hb : w.heap[r]? = some (.mapIter m x s y)) : (getObj r).run P w = .ok (.mapIter m x s y) w := by
  simp [getObj, Sem.run, hb]
theorem run_next_at (w : World) (ty : TypeId) (ri bm since c0 : Nat) (seen : Array Nat) (es : Array MapEntry) (clock : Nat) (hi : w.heap[ri]? = some (.mapIter (some bm) since seen c0)) (hb : w.heap[bm]? = some (.map es clock))
    (hold : ∀ x ∈ es.toList, x.born < since) (hsc : since ≤ c0) :
    ((∀ e ∈ es.toList, seen.contains e.born = true) ∧ (Instr.next (.pointer (some ⟨ri, 0, none⟩)) false ty).run P w = .ok (.tuple #[.bool false]) w) ∨
    ∃ e ∈ es.toList, seen.contains e.born = false ∧ ∃ w1 : World, w1.heap = w.heap ∧ WSame w w1 ∧
      (Instr.next (.pointer (some ⟨ri, 0, none⟩)) false ty).run P w = .ok (.tuple #[.bool true, e.key, e.val]) { w1 with heap := w1.heap.setIfInBounds ri (.mapIter (some bm) since (seen.push e.born) clock) } := by
  have hlt := some_lt hb
  simp only [Instr.next, Sem.run_bind, run_getObj_iter hi, MapKept.run_getObj_map hb, Result.andThen_ok, next_test_false seen es since c0 hold hsc, Bool.false_eq_true, if_false]
  have hmem : ∀ x ∈ (Array.filter (fun e => !seen.contains e.born) es).toList, x ∈ es.toList ∧ seen.contains x.born = false := fun x hx => by
    have := Array.mem_filter.1 (Array.mem_toList_iff.1 hx)
    exact ⟨Array.mem_toList_iff.2 this.1, by simpa using this.2⟩
  have hall : (Array.filter (fun e => !seen.contains e.born) es).size = 0 → ∀ e ∈ es.toList, seen.contains e.born = true := fun h0 e he => by
    cases hc : seen.contains e.born with
    | true => rfl
    | false =>
      have : e ∈ Array.filter (fun e => !seen.contains e.born) es := Array.mem_filter.2 ⟨Array.mem_toList_iff.1 he, by simp only [hc, Bool.not_false]⟩
      rw [Array.eq_empty_of_size_eq_zero h0] at this
      simp at this
  generalize Array.filter (fun e => !seen.contains e.born) es = L at hmem hall ⊢
  have e1 : L.filter (fun x => decide (x.born < since)) = L := Array.filter_eq_self.2 (fun x hx => by simpa using hold x (hmem x (by simpa using hx)).1)
  have e2 : L.filter (fun x => decide (x.born ≥ since)) = #[] := by
    rw [Array.filter_eq_empty_iff]
    intro x hx
    have := hold x (hmem x (by simpa using hx)).1
    simp
    omega
  simp only [e1, e2, Array.append_empty]
  by_cases h0 : L.size = 0
  · left
    have hL : L = #[] := Array.eq_empty_of_size_eq_zero h0
    refine ⟨hall h0, ?_⟩
    subst hL
    simp [choose, Sem.run, Question.forced]
  · right
    have hne : L.isEmpty = false := by simp [Array.isEmpty, h0]
    simp only [hne, Bool.false_eq_true, if_false, Array.empty_append, Array.size_map]
    have hch : ∃ (j : Nat) (w1 : World), j < L.size ∧ w1.heap = w.heap ∧ WSame w w1 ∧ (choose (Question.mapNext L.size)).run P w = .ok j w1 := by
      by_cases hf : L.size ≤ 1
      · exact ⟨0, w, by omega, rfl, WSame.refl _, by simp [choose, Sem.run, Question.forced, hf]⟩
      · exact ⟨_, { w with drawn := w.drawn + 1 }, Nat.mod_lt _ (by omega), rfl, ⟨rfl, rfl, rfl⟩, by
          simp only [choose, Sem.run, Question.forced, decide_eq_true_eq, hf, if_false, Question.cut]
          rfl⟩
    obtain ⟨j, w1, hj, hh, hs, hrun⟩ := hch
    have hm := hmem L[j] (by simp)
    refine ⟨L[j], hm.1, hm.2, w1, hh, hs, ?_⟩
    have hset := run_setObj_iter (P := P) (w := w1) (.mapIter (some bm) since (seen.push L[j].born) clock) (by rw [hh]; exact hi)
    simp only [hrun, Result.andThen_ok, Array.getElem?_map, Array.getElem?_eq_getElem hj, Option.map_some, Sem.run_bind, hset, Sem.run_pure]
theorem aact_next {x : Operand} {tok m off bm since clock last : Nat} {seen : List Nat} {ks : List (Nat × Value)} {vs us : List AV}
    (hx : ev T x = .ptr tok off) (hi : A[tok]? = some (.mapo (.iter bm since seen last) us)) (ho : A[m]? = some (.mapo (.map bm clock ks) vs)) (hold : ∀ p ∈ ks, p.1 < since) (hsc : since ≤ clock)
    (h1 : (∀ p ∈ ks, p.1 ∈ seen) → Kk (.tup [.fz .bool false]) A)
    (h2 : ∀ p ∈ ks, p.1 ∉ seen → Kk (.tup [.fz .bool true, .unk, .unk]) (A.set tok (.mapo (.iter bm since (seen ++ [p.1]) clock) []))) : AAct P G A T (.next x false) Kk := by
  refine ⟨?_⟩
  rintro c a ⟨dst, op, type, pos, after, guard⟩ H hA hG rfl hT
  have rx := hT x (by simp [Op.operands])
  rw [hx] at rx
  subst hA
  obtain ⟨ri, e1, hr, hib, _, hsl⟩ := iter_at H hi rx
  obtain ⟨b, ob, ws, q1, q2, q3, q4⟩ := H.obj m _ ho
  obtain ⟨rfl, es, rfl, k1, k3, k2⟩ := mok_map q3
  have hold' : ∀ e ∈ es.toList, e.born < since := fun e he => hold (e.born, e.key) (by rw [← k1]; exact List.mem_map.2 ⟨e, he, rfl⟩)
  rcases run_next_at (P := P) c.w type ri b since last seen.toArray es clock hib q2 hold' hsl with ⟨f1, f2⟩ | ⟨e, he, f1, w1, f2, f3, f4⟩
  · refine ⟨c, .value (.tuple #[.bool false]), _, .tup [.fz .bool false], by simp only [execOp, e1, Sem.run_bind, f2, Result.andThen_ok, Sem.run_pure], .inl rfl, Ext.refl c, H, ?_, h1 fun p hp => ?_⟩
    · unfold Rel; exact ⟨[.bool false], rfl, by unfold RelL; exact ⟨_, _, rfl, rel_bool.2 rfl, by unfold RelL; rfl⟩⟩
    · obtain ⟨e, he, rfl⟩ := mem_map_of k1 hp
      simpa using f1 e he
  · obtain ⟨E0, H0⟩ := ext_draw H w1 f2 f3
    have hi' : ({ c with w := w1 } : Cx).A[tok]? = some (.mapo (.iter b since seen last) us) := hi
    have E1 := ext_wrO (ob := .mapIter (some b) since (seen.toArray.push e.born) clock) (j := .iter b since (seen ++ [e.born]) clock) (us := []) H0 hi' rfl hr
    refine ⟨_, .value _, _, .tup [.fz .bool true, .unk, .unk], by simp only [execOp, e1, Sem.run_bind, f4, Result.andThen_ok, Sem.run_pure]; rfl, .inl rfl, E0.trans E1, hr_wrO H0 hi' rfl hr ?_, ?_, h2 (e.born, e.key) (by rw [← k1]; exact List.mem_map.2 ⟨e, he, rfl⟩) (by simpa using f1)⟩
    · refine ⟨ri, _, [], rfl, wrO_self (by show ri < w1.heap.size; rw [f2]; exact some_lt hib), ⟨by simp, rfl, hsc⟩, by unfold RelL; rfl⟩
    · unfold Rel; exact ⟨[.bool true, e.key, e.val], rfl, by unfold RelL; exact ⟨_, _, rfl, rel_bool.2 rfl, by unfold RelL; exact ⟨_, _, rfl, rel_unk, by unfold RelL; exact ⟨_, _, rfl, rel_unk, by unfold RelL; rfl⟩⟩⟩⟩
theorem aact_entry {x : Operand} {tok m off bm since clock b0 : Nat} {s : List Nat} {ks : List (Nat × Value)} {vs us : List AV} {kf : Value → AV}
    (hx : ev T x = .ptr tok off) (hi : A[tok]? = some (.mapo (.iter bm since (s ++ [b0]) clock) us)) (ho : A[m]? = some (.mapo (.map bm clock ks) vs)) (hin : ∃ p ∈ ks, p.1 = b0)
    (hkf : ∀ p ∈ ks, ∀ c : Cx, Rel c (kf p.2) p.2)
    (h : ∀ (j : Nat) (p : Nat × Value) (a : AV), ks[j]? = some p → p.1 = b0 → vs[j]? = some a → Kk (.tup [kf p.2, a]) A) : AAct P G A T (.entry x) Kk := by
  refine ⟨?_⟩
  rintro c a ⟨dst, op, type, pos, after, guard⟩ H hA hG rfl hT
  have rx := hT x (by simp [Op.operands])
  rw [hx] at rx
  subst hA
  obtain ⟨ri, e1, hr, hib, _, hsl⟩ := iter_at H hi rx
  obtain ⟨b, ob, ws, q1, q2, q3, q4⟩ := H.obj m _ ho
  obtain ⟨rfl, es, rfl, k1, rfl, k2⟩ := mok_map q3
  have hback : (s ++ [b0]).toArray.back? = some b0 := by simp
  obtain ⟨e, hf⟩ : ∃ e, es.find? (fun e => e.born == b0) = some e := by
    cases hf : es.find? (fun e => e.born == b0) with
    | some e => exact ⟨e, rfl⟩
    | none =>
      obtain ⟨p, hp, hpb⟩ := hin
      obtain ⟨e, he, rfl⟩ := mem_map_of k1 hp
      have := Array.find?_eq_none.1 hf e (by simpa using he)
      simp at this
      exact absurd hpb this
  have heb : e.born = b0 := by have := Array.find?_some hf; simpa using this
  have hem : e ∈ es.toList := by have := Array.mem_of_find?_eq_some hf; simpa using this
  obtain ⟨j, hj⟩ := List.getElem?_of_mem hem
  obtain ⟨av, g1, g2⟩ := q4.get' (i := j) (v := e.val) (by rw [List.getElem?_map, hj]; rfl)
  refine ⟨c, .value (.tuple #[e.key, e.val]), _, .tup [kf e.key, av], ?_, .inl rfl, Ext.refl c, H, ?_, h j (e.born, e.key) av (ix_map k1 hj) heb g1⟩
  · simp only [execOp, e1, Sem.run_bind, Instr.entry, run_getObj_iter hib, Result.andThen_ok, hback, MapKept.run_getObj_map q2, bne_self_eq_false, Bool.false_eq_true, if_false, hf, Sem.run_pure]
  · unfold Rel; exact ⟨[e.key, e.val], rfl, by unfold RelL; exact ⟨_, _, rfl, hkf (e.born, e.key) (by rw [← k1]; exact List.mem_map.2 ⟨e, hem, rfl⟩) c, by unfold RelL; exact ⟨_, _, rfl, g2, by unfold RelL; rfl⟩⟩⟩
end
end Go.Ab
/-
  The memory seen under other names where its end is not written out.
-/
namespace Go.Ab
open Go
mutual
theorem map_fix {f : Nat → Nat} {n : Nat} (hf : ∀ i, i < n → f i = i) : ∀ a : AV, a.okB n = true → a.map f = a
  | .fz t x, _ => rfl
  | .fptr t x, _ => rfl
  | .ref t o l, h => by unfold AV.okB at h; unfold AV.map; rw [hf t (by simpa using h)]
  | .nilSl, _ => rfl
  | .ptr t o, h => by unfold AV.okB at h; unfold AV.map; rw [hf t (by simpa using h)]
  | .elt t i o, h => by unfold AV.okB at h; unfold AV.map; rw [hf t (by simpa using h)]
  | .glob g, _ => rfl
  | .agg l, h => by unfold AV.okB at h; unfold AV.map; rw [mapL_fix hf l h]
  | .tup l, h => by unfold AV.okB at h; unfold AV.map; rw [mapL_fix hf l h]
  | .fn g l, h => by unfold AV.okB at h; unfold AV.map; rw [mapL_fix hf l h]
  | .ifc t a, h => by unfold AV.okB at h; unfold AV.map; rw [map_fix hf a h]
  | .opt g a, h => by unfold AV.okB at h; unfold AV.map; rw [map_fix hf a h]
  | .unk, _ => rfl
theorem mapL_fix {f : Nat → Nat} {n : Nat} (hf : ∀ i, i < n → f i = i) : ∀ l : List AV, okLB n l = true → mapL f l = l
  | [], _ => rfl
  | a :: l, h => by
    unfold okLB at h
    rw [Bool.and_eq_true] at h
    unfold mapL
    rw [map_fix hf a h.1, mapL_fix hf l h.2]
end
mutual
theorem okB_up {n m : Nat} (h : n ≤ m) : ∀ a : AV, a.okB n = true → a.okB m = true
  | .fz t x, _ => rfl
  | .fptr t x, _ => rfl
  | .ref t o l, k => by unfold AV.okB at *; have : t < n := by simpa using k
                        simpa using (by omega : t < m)
  | .nilSl, _ => rfl
  | .ptr t o, k => by unfold AV.okB at *; have : t < n := by simpa using k
                      simpa using (by omega : t < m)
  | .elt t i o, k => by unfold AV.okB at *; have : t < n := by simpa using k
                        simpa using (by omega : t < m)
  | .glob g, _ => rfl
  | .agg l, k => by unfold AV.okB at *; exact okLB_up h l k
  | .tup l, k => by unfold AV.okB at *; exact okLB_up h l k
  | .fn g l, k => by unfold AV.okB at *; exact okLB_up h l k
  | .ifc t a, k => by unfold AV.okB at *; exact okB_up h a k
  | .opt g a, k => by unfold AV.okB at *; exact okB_up h a k
  | .unk, _ => rfl
theorem okLB_up {n m : Nat} (h : n ≤ m) : ∀ l : List AV, okLB n l = true → okLB m l = true
  | [], _ => rfl
  | a :: l, k => by
    unfold okLB at *
    rw [Bool.and_eq_true] at *
    exact ⟨okB_up h a k.1, okLB_up h l k.2⟩
end
theorem mapO_fix {f : Nat → Nat} {n : Nat} (hf : ∀ i, i < n → f i = i) {o : AO} (h : okLB n o.vals = true) : mapO f o = o := by
  cases o with
  | row e xs => rfl
  | box vs => exact congrArg AO.box (mapL_fix hf vs h)
  | dead => rfl
  | room => rfl
  | mapo i vs => exact congrArg (AO.mapo i) (mapL_fix hf vs h)
theorem renA_intro {p : List Nat} {A : List AO} {m : Nat} : ∀ (A' : List AO) (j0 : Nat), (∀ (j : Nat) o, A'[j]? = some o → o ≠ .dead → A[nameOf p (j0 + j)]? = some (mapO (nameOf p) o) ∧ okLB m o.vals = true) → RenA p A m j0 A'
  | [], _, _ => trivial
  | o :: A', j0, h => by
    have next : RenA p A m (j0 + 1) A' := renA_intro A' (j0 + 1) fun j o' hj hd => by
      have := h (j + 1) o' (by simpa using hj) hd
      rwa [show j0 + (j + 1) = j0 + 1 + j by omega] at this
    have h0 := h 0 o rfl
    cases o with
    | dead => exact next
    | room => exact ⟨(h0 (by simp)).1, next⟩
    | row e xs => exact ⟨(h0 (by simp)).1, next⟩
    | box vs => exact ⟨(h0 (by simp)).1, (h0 (by simp)).2, next⟩
    | mapo i vs => exact ⟨(h0 (by simp)).1, (h0 (by simp)).2, next⟩
theorem viewB_intro {p : List Nat} {m : Nat} {A A' : List AO} (hm : m ≤ A'.length) (hinj : ∀ j k, j < A'.length → k < A'.length → nameOf p j = nameOf p k → j = k)
    (hfix : ∀ j, j < A'.length → nameOf p j = j ∨ (roomB A j = true ∧ roomB A' j = false)) : viewB p m A A' = true := by
  unfold viewB rmB
  simp only [Bool.and_eq_true, List.all_eq_true, List.mem_range]
  refine ⟨⟨Nat.ble_eq_true_of_le hm, fun j hj => ?_⟩, fun j hj => ?_⟩
  · rcases hfix j hj with h | h
    · simp [h]
    · simp [h.2]
  · rw [Bool.or_eq_true]
    right
    rw [Bool.and_eq_true, List.all_eq_true]
    refine ⟨?_, fun k hk => ?_⟩
    · rcases hfix j hj with h | h
      · simp [h]
      · simp [h.1]
    · rw [List.mem_range] at hk
      by_cases h : nameOf p j = nameOf p k
      · have := hinj j k hj hk h
        subst this; simp
      · have : Nat.beq (nameOf p j) (nameOf p k) = false := by
          rw [← Bool.not_eq_true]; intro e; exact h (Nat.eq_of_beq_eq_true e)
        simp [this]
theorem nameOf_range {n i : Nat} (h : i < n) : nameOf (List.range n) i = i := by
  unfold nameOf; rw [List.getD, List.getElem?_range h]; rfl
/-- all that the objects hold leads to objects below n -/
def OkA (n : Nat) (A : List AO) : Prop := ∀ o ∈ A, okLB n o.vals = true
/-- as it was -/
theorem view_id {m : Nat} {v : AV} {A : List AO} (hm : m ≤ A.length) (hv : v.okB A.length = true) (hA : OkA A.length A) : View m v A v A := by
  have hf : ∀ i, i < A.length → nameOf (List.range A.length) i = i := fun i hi => nameOf_range hi
  refine ⟨List.range A.length, viewB_intro hm (fun j k hj hk h => by rwa [hf j hj, hf k hk] at h) (fun j hj => .inl (hf j hj)), renA_intro A 0 fun j o hj hd => ?_, (map_fix hf v hv).symm, hv⟩
  have hok := hA o (List.mem_of_getElem? hj)
  rw [Nat.zero_add, hf j (get_lt hj), mapO_fix hf hok]
  exact ⟨hj, hok⟩
/-- a new row takes the last room -/
theorem view_room {m : Nat} {B : List AO} {e : Ty} {xs : List e.den} {o l : Nat} (hm : m ≤ B.length + 1) (hB : OkA B.length B) :
    View m (.ref (B.length + 1) o l) (B ++ [.room, .row e xs]) (.ref B.length o l) (B ++ [.row e xs]) := by
  have hlen : (B ++ [AO.row e xs]).length = B.length + 1 := by simp
  have h1 : ∀ i, i < B.length → nameOf (List.range B.length ++ [B.length + 1]) i = i := fun i hi => by
    unfold nameOf
    rw [List.getD, List.getElem?_append_left (by simpa using hi), List.getElem?_range hi]; rfl
  have h2 : nameOf (List.range B.length ++ [B.length + 1]) B.length = B.length + 1 := by
    unfold nameOf
    rw [List.getD, List.getElem?_append_right (by simp)]; simp
  refine ⟨List.range B.length ++ [B.length + 1], viewB_intro (by rw [hlen]; exact hm) (fun j k hj hk h => ?_) (fun j hj => ?_), renA_intro _ 0 fun j o' hj hd => ?_, ?_, ?_⟩
  · rw [hlen] at hj hk
    by_cases hjb : j < B.length
    · rw [h1 j hjb] at h
      by_cases hkb : k < B.length
      · rwa [h1 k hkb] at h
      · obtain rfl : k = B.length := by omega
        rw [h2] at h; omega
    · obtain rfl : j = B.length := by omega
      rw [h2] at h
      by_cases hkb : k < B.length
      · rw [h1 k hkb] at h; omega
      · omega
  · rw [hlen] at hj
    by_cases hjb : j < B.length
    · exact .inl (h1 j hjb)
    · obtain rfl : j = B.length := by omega
      refine .inr ⟨?_, ?_⟩
      · unfold roomB; rw [List.getElem?_append_right (Nat.le_refl _)]; simp
      · unfold roomB; rw [List.getElem?_append_right (Nat.le_refl _)]; simp
  · rw [Nat.zero_add]
    have hjl := get_lt hj
    rw [hlen] at hjl
    by_cases hjb : j < B.length
    · rw [List.getElem?_append_left hjb] at hj
      have hok := hB o' (List.mem_of_getElem? hj)
      rw [h1 j hjb, mapO_fix h1 hok, List.getElem?_append_left hjb]
      exact ⟨hj, okLB_up (by rw [hlen]; omega) _ hok⟩
    · obtain rfl : j = B.length := by omega
      rw [List.getElem?_append_right (Nat.le_refl _)] at hj
      simp only [Nat.sub_self, List.getElem?_cons_zero, Option.some.injEq] at hj
      subst hj
      rw [h2, List.getElem?_append_right (by omega)]
      exact ⟨by simp [mapO], rfl⟩
  · unfold AV.map; rw [h2]
  · unfold AV.okB; rw [hlen]; simp
theorem force_of (v : AV) (A : List AO) (K : AV → List AO → Prop) (h : K v A) : forceV v fun v' => forceA A fun A' => K v' A' := by
  rw [forceV_eq, forceA_eq]; exact h
/-! ### append, the slice's row found by a fact -/
theorem aSrc_ref {e : Ty} {A : List AO} {tok off len : Nat} {ys : List e.den} (h : A[tok]? = some (.row e ys)) : aSrc e A (.ref tok off len) = (some (off + len ≤ List.length ys), some ((List.drop off ys).take len)) := by
  unfold aSrc
  simp only [h]
  simp
theorem aAppend_ref {D : Tab} {A : List AO} {t0 t1 el : TypeId} {e : Ty} {tok len : Nat} {y : AV} {C : Option Prop} {xs ys : List e.den} (h1 : telem D t0 = some el) (h2 : tyOf D 8 el = some e) (h3 : (elOk D el e && notInt D t1) = true)
    (hy : aSrc e A y = (C, some ys)) (hx : A[tok]? = some (.row e xs)) (hbl : Nat.ble (tby D el) 24 = true) : aAppend D A t0 t1 (.ref tok 0 len) y = ⟨andC C (some (len ≤ List.length xs ∧ len + List.length ys ≤ 5864062014634)), .ref A.length 0 (len + List.length ys), A.set tok .dead ++ [.row e (List.take len xs ++ ys)]⟩ := by
  unfold aAppend
  simp only [h1, h2, h3, hy, hx, hbl]
  simp
theorem aAppend_nil {D : Tab} {A : List AO} {t0 t1 el : TypeId} {e : Ty} {y : AV} {C : Option Prop} {ys : List e.den} (h1 : telem D t0 = some el) (h2 : tyOf D 8 el = some e) (h3 : (elOk D el e && notInt D t1) = true)
    (hy : aSrc e A y = (C, some ys)) (hbl : Nat.ble (tby D el) 16 = true) : aAppend D A t0 t1 .nilSl y = ⟨andC C (some (List.length ys ≤ 8796093022208)), .ref A.length 0 (List.length ys), A ++ [.row e ys]⟩ := by
  unfold aAppend
  simp only [h1, h2, h3, hy, hbl]
theorem run_app {D : Tab} {A : List AO} {t0 t1 : TypeId} {x y : AV} {e : ER} {K : AV → List AO → Prop} (h : aAppend D A t0 t1 x y = e) (hk : runE e K) : runE (aAppend D A t0 t1 x y) K := h ▸ hk
theorem conv1_dat {A A' : List AO} {t : Ty} {v : AV} {C : Option Prop} {x : t.den} (hb : bEq (aggB v) t.isAgg = true) (h : toD A t v = (C, some x, A')) : conv1 A (.dat t) v = (C, some (.fz t x), A') := by
  unfold conv1
  simp only [hb, h]
/-- a slice whose row is found by a fact, turned to data -/
theorem conv1_ref {A : List AO} {e : Ty} {tok off len : Nat} {xs : List e.den} (h : A[tok]? = some (.row e xs)) :
    conv1 A (.dat (.list e)) (.ref tok off len) = (andC (some (off + len ≤ List.length xs)) none, some (.fz (.list e) ((List.drop off xs).take len)), A.set tok .dead) := by
  have hg : goodC A (acells (.ref tok off len)) = true := by
    show ([AV.ref tok off len].all fun a => a.one && a.sure A) = true
    simp [AV.one, AV.sure, h]
  have hf : frz A (acells (.ref tok off len)) = (andC (some (off + len ≤ List.length xs)) none, [.fz (.list e) ((List.drop off xs).take len)], A.set tok .dead) := by
    show frz A [AV.ref tok off len] = _
    unfold frz
    simp only [h]
    unfold frz
    rfl
  have ht : toD A (.list e) (.ref tok off len) = (andC (some (off + len ≤ List.length xs)) none, some ((List.drop off xs).take len), A.set tok .dead) := by
    unfold toD
    rw [hg]
    show (match frz A (acells (.ref tok off len)) with | (C, l, A') => (C, (Ty.list e).ofC l, A')) = _
    rw [hf]
    simp [Ty.ofC, ofList]
  exact conv1_dat rfl ht
theorem aact_dat {P : Program} {G : List (Nat × Value)} {A : List AO} {T : List (Nat × AV)} {op : Op} {K : AV → List AO → Prop} (tok : Nat) (e : Ty) (xs : List e.den) (len : Nat)
    (h : AAct P G A T op fun r A' => r = .ref tok 0 len ∧ A'[tok]? = some (.row e xs) ∧ len ≤ List.length xs ∧ K (.fz (.list e) (List.take len xs)) (A'.set tok .dead)) : AAct P G A T op K :=
  ⟨fun c a o H hA hG ho hT => by
    obtain ⟨c1, nx, v, r, h1, h2, h3, h4, h5, rfl, h6, h7, h8⟩ := h.run c a o H hA hG ho hT
    have hc := conv1_ref (off := 0) (len := len) h6
    obtain ⟨c2, k1, k2, k3, k4, k5⟩ := conv1_sound (cv := .dat (.list e)) (a' := .fz (.list e) (List.take len xs)) h4 h5 (by rw [hc]; show 0 + len ≤ _; omega) (by rw [hc]; simp)
    rw [hc] at k4
    refine ⟨c2, nx, v, .fz (.list e) (List.take len xs), by rw [k1.w]; exact h1, h2, h3.trans k2, k3, k5, by rw [k4]; exact h8⟩⟩
theorem rent_ref {n0 : Nat} {A : List AO} {e : Ty} {tok len : Nat} {xs : List e.den} (v : AV) (h : A[tok]? = some (.row e xs)) (hl : len ≤ List.length xs) : REnt n0 (.tup [.ref tok 0 len, v]) A (.tup [.fz (.list e) (List.take len xs), v]) (A.set tok .dead) := by
  refine REnt.conv [.dat (.list e), .keep] (some (0 + len ≤ List.length xs)) ?_ (by show 0 + len ≤ _; omega)
  unfold conv
  rw [conv1_ref (off := 0) (len := len) h]
  rfl
theorem isAdd_not {D : Tab} {A : List AO} {T : List (Nat × AV)} {o : Oper} (h : aKind D A T o.op ≠ .pure) : isAddO o = false := by
  unfold isAddO
  cases o.guard with
  | some j => rfl
  | none =>
    simp only
    split
    · rename_i h2
      rw [h2] at h
      exact (h rfl).elim
    · rfl
theorem sgRun_ag {P : Program} {D : Tab} {G : List (Nat × Value)} {L : List Oper} {o : Oper} {T : List (Nat × AV)} {A : List AO} {K : AV → List AO → Prop} (h : isAddO o = false) : sgRun P D G L A T o K = agRun P D G L A T o K := by
  unfold sgRun; rw [h]
/-- an effect told by an equation, in a region without draws -/
theorem aOps_eff {P : Program} {D : Tab} {G : List (Nat × Value)} {N : Nat} {L : List Oper} {o : Oper} {os : List Oper} {T : List (Nat × AV)} {A : List AO} {Q : List (Nat × AV) → List AO → Prop} {d : Nat} {e : ER}
    (hd : o.dst = some d) (hN : Nat.blt d N = true) (hg : o.guard = none) (hk : aKind D A T o.op = .eff e) (h : runE e fun v A' => aOps P D G N L os ((d, v) :: T) A' Q) : aOps P D G N L (o :: os) T A Q := by
  unfold aOps
  rw [hd]
  simp only [hN]
  rw [sgRun_ag (isAdd_not (D := D) (A := A) (T := T) (by rw [hk]; exact fun h => by cases h))]
  unfold agRun
  rw [hg]
  simp only
  unfold aRun
  rw [hk]
  exact h
theorem run_bs {D : Tab} {A : List AO} {t : TypeId} {n : Nat} {ps : List (Nat × AV)} {e : ER} {K : AV → List AO → Prop} (h : aBuildSlice D A t n ps = e) (hk : runE e K) : runE (aBuildSlice D A t n ps) K := h ▸ hk
theorem runE_none {v : AV} {A : List AO} {K : AV → List AO → Prop} (hk : K v A) : runE ⟨none, v, A⟩ K := force_of v A K hk
theorem runE_some {C : Prop} {v : AV} {A : List AO} {K : AV → List AO → Prop} (h : C) (hk : K v A) : runE ⟨some C, v, A⟩ K := ⟨h, force_of v A K hk⟩
end Go.Ab
/-
  Maps, on: what is changed where it lies (an entry is looked up or made, and its value is put there later).
-/
namespace Go.Ab
open Go Go.ChangeMaps Go.Maps
section
variable {P : Program} {G : List (Nat × Value)} {A : List AO} {T : List (Nat × AV)} {Kk : AV → List AO → Prop}
theorem modify_id {es : Array MapEntry} {j : Nat} {e : MapEntry} {kv : Value} (h : es[j]? = some e) (hk : e.key = kv) : es.modify j (fun e => { e with key := kv }) = es := by
  apply Array.ext'
  apply List.ext_getElem?
  intro m
  simp only [Array.toList_modify, List.getElem?_modify]
  by_cases hjm : j = m
  · subst hjm
    have h' : es.toList[j]? = some e := by simpa using h
    rw [h']
    simp
    rw [← hk]
  · cases es.toList[m]? with
    | none => rfl
    | some e' => simp [hjm]
theorem aact_upsert {t kt et : TypeId} {x k : Operand} {tok off bm clock : Nat} {ks : List (Nat × Value)} {vs : List AV} {kv : Value} {z : AV}
    (hx : ev T x = .ptr tok off) (ho : A[tok]? = some (.mapo (.map bm clock ks) vs)) (ht : P.underlying t = some (.map kt et)) (K : Keyed P kt)
    (hk : ∀ c v, Rel c (ev T k) v → v = kv) (hkl : ∃ l, keyOf P kt kv = some l) (hks : ∀ p ∈ ks, ∃ l, keyOf P kt p.2 = some l)
    (hz : ∀ c : Cx, ∃ zv, (zeroValue et).run P c.w = .ok zv c.w ∧ Rel c z zv)
    (h1 : (∀ p ∈ ks, p.2 ≠ kv) → Kk (.tup [z, .fz (.int .i64) (clock : Int)]) (A.set tok (.mapo (.map bm (clock + 1) (ks ++ [(clock, kv)])) (vs ++ [z]))))
    (h2 : ∀ (j : Nat) (p : Nat × Value) (a : AV), ks[j]? = some p → p.2 = kv → vs[j]? = some a → Kk (.tup [a, .fz (.int .i64) (p.1 : Int)]) A) : AAct P G A T (.mapEntry t x k) Kk := by
  refine ⟨?_⟩
  rintro c a ⟨dst, op, type, pos, after, guard⟩ H hA hG rfl hT
  have rx := hT x (by simp [Op.operands])
  have rk := hk c _ (hT k (by simp [Op.operands]))
  rw [hx] at rx
  subst hA
  obtain ⟨e1, hr, es, hb, hks', hvs, hold⟩ := map_at H ho rx
  obtain ⟨l, hl⟩ := hkl
  obtain ⟨zv, z1, z2⟩ := hz c
  have hlt := some_lt hb
  rcases K.find c.w hl es.toList (fun e he => hks (e.born, e.key) (by rw [← hks']; exact List.mem_map.2 ⟨e, he, rfl⟩)) with ⟨f1, f2⟩ | ⟨j, e, f1, f2, f3⟩
  · have hK := h1 (fun p hp => by obtain ⟨e, he, rfl⟩ := mem_map_of hks' hp; exact f2 e he)
    have E := ext_wrO (ob := .map (es.push { key := kv, val := zv, born := clock }) (clock + 1)) (j := .map bm (clock + 1) (ks ++ [(clock, kv)])) (us := vs ++ [z]) H ho rfl hr
    refine ⟨_, .value (.tuple #[zv, goInt clock]), .tuple #[zv, goInt clock], _, ?_, .inl rfl, E, hr_wrO H ho rfl hr ?_, ?_, hK⟩
    · simp [execOp, Instr.mapEntry, e1, rk, run_underlying ht, MapKept.run_getObj_map hb, K.check c.w _ hl, f1, z1, Result.andThen, run_setObj_map' _ hb]; rfl
    · refine ⟨bm, _, _, rfl, wrO_self hlt, ⟨rfl, _, rfl, ?_, rfl, ?_⟩, ?_⟩
      · simp [hks']
      · intro e he
        simp at he
        rcases he with he | rfl
        · have := hold e (by simpa using he); omega
        · simp
      · simp only [Array.toList_push, List.map_append, List.map_cons, List.map_nil]
        exact RelL.append _ _ _ _ (hvs.ext E) (by unfold RelL; exact ⟨_, _, rfl, z2.ext E, by unfold RelL; rfl⟩)
    · unfold Rel; exact ⟨[zv, goInt clock], rfl, by unfold RelL; exact ⟨_, _, rfl, z2.ext E, by unfold RelL; exact ⟨_, _, rfl, rel_int.2 rfl, by unfold RelL; rfl⟩⟩⟩
  · obtain ⟨av, g1, g2⟩ := hvs.get' (i := j) (v := e.val) (by rw [List.getElem?_map, f2]; rfl)
    have hK := h2 j _ av (ix_map hks' f2) f3 g1
    have hj : es[j]? = some e := by simpa using f2
    have hst := K.stays (P := P) c.w hl
    have hid := modify_id hj f3
    have hset : ({ c.w with heap := c.w.heap.setIfInBounds bm (.map es clock) } : World) = c.w := by
      have : c.w.heap.setIfInBounds bm (.map es clock) = c.w.heap := by
        apply Array.ext_getElem?
        intro m
        by_cases hm : bm = m
        · subst hm
          rw [Array.getElem?_setIfInBounds_self, if_pos hlt, hb]
        · rw [Array.getElem?_setIfInBounds_ne hm]
      rw [this]
    refine ⟨c, .value (.tuple #[e.val, goInt e.born]), .tuple #[e.val, goInt e.born], _, ?_, .inl rfl, Ext.refl c, H, ?_, hK⟩
    · simp [execOp, Instr.mapEntry, e1, rk, run_underlying ht, MapKept.run_getObj_map hb, K.check c.w _ hl, f1, Result.andThen, hj, f3, hst, hid, run_setObj_map' _ hb, hset]
    · unfold Rel; exact ⟨[e.val, goInt e.born], rfl, by unfold RelL; exact ⟨_, _, rfl, g2, by unfold RelL; exact ⟨_, _, rfl, rel_int.2 rfl, by unfold RelL; rfl⟩⟩⟩
theorem aact_put {t : TypeId} {x s y : Operand} {tok off bm clock st j : Nat} {ks : List (Nat × Value)} {vs : List AV} {p : Nat × Value}
    (hx : ev T x = .ptr tok off) (ho : A[tok]? = some (.mapo (.map bm clock ks) vs)) (hs : ∀ c v, Rel c (ev T s) v → v = .int .i64 (st : Int)) (hnd : (ks.map (·.1)).Nodup) (hj : ks[j]? = some p) (hp : p.1 = st)
    (h : Kk .unk (A.set tok (.mapo (.map bm clock ks) (vs.set j (ev T y))))) : AAct P G A T (.entryStore t x s y) Kk := by
  refine ⟨?_⟩
  rintro c a ⟨dst, op, type, pos, after, guard⟩ H hA hG rfl hT
  have rx := hT x (by simp [Op.operands])
  have rs := hs c _ (hT s (by simp [Op.operands]))
  have ry := hT y (by simp [Op.operands])
  rw [hx] at rx
  subst hA
  obtain ⟨e1, hr, es, hb, hks', hvs, hold⟩ := map_at H ho rx
  have hlt := some_lt hb
  obtain ⟨e, f2⟩ : ∃ e, es.toList[j]? = some e := by
    cases hc : es.toList[j]? with
    | some e => exact ⟨e, rfl⟩
    | none => rw [← hks', List.getElem?_map, hc] at hj; cases hj
  have hpe := ix_map hks' f2
  rw [hj] at hpe
  have hpe : p = (e.born, e.key) := by simpa using hpe
  have heb : e.born = st := by rw [← hp, hpe]
  have hborn : (es.toList.map (·.born)).Nodup := by
    have : es.toList.map (·.born) = ks.map (·.1) := by rw [← hks', List.map_map]; rfl
    rw [this]; exact hnd
  have hfi : es.findIdx? (fun e => (e.born : Int) == (st : Int)) = some j := by
    have hx : ∀ (q : MapEntry → Bool), es.findIdx? q = es.toList.findIdx? q := fun q => by cases es; simp
    rw [hx, List.findIdx?_eq_some_iff_getElem]
    have hjl := get_lt f2
    refine ⟨hjl, ?_, fun i hij => ?_⟩
    · have : es.toList[j] = e := by rw [List.getElem?_eq_getElem hjl] at f2; simpa using f2
      rw [this, heb]; simp
    · have hne : es.toList[i].born ≠ es.toList[j].born := fun he => by
        have := (List.getElem_inj (h₀ := by simpa using Nat.lt_trans hij hjl) (h₁ := by simpa using hjl) hborn).1 (by simpa using he)
        omega
      have : es.toList[j] = e := by rw [List.getElem?_eq_getElem hjl] at f2; simpa using f2
      rw [this, heb] at hne
      have hil : i < es.size := by simpa using Nat.lt_trans hij hjl
      have hne' : ¬ es[i].born = st := by simpa using hne
      simp
      omega
  have E := ext_wrO (ob := .map (es.modify j fun e => { e with val := a.eval y }) clock) (j := .map bm clock ks) (us := vs.set j (ev T y)) H ho rfl hr
  refine ⟨_, .skip, undef, .unk, ?_, .inr ⟨rfl, rfl⟩, E, hr_wrO H ho rfl hr ?_, rel_unk, h⟩
  · simp [execOp, Instr.entryStore, e1, rs, asInt, asIntOf, MapKept.run_getObj_map hb, hfi, Result.andThen, run_setObj_map' _ hb]; rfl
  · have hmod : ∀ {β : Type} (g : MapEntry → β) (v : β), (∀ e', es.toList[j]? = some e' → g { e' with val := a.eval y } = v) → (es.modify j fun e => { e with val := a.eval y }).toList.map g = (es.toList.map g).set j v := by
      intro β g v hg
      apply List.ext_getElem?
      intro m
      rw [List.getElem?_map, List.getElem?_set]
      simp only [Array.toList_modify, List.getElem?_modify, List.length_map]
      by_cases hjm : j = m
      · subst hjm
        rw [f2, if_pos rfl, if_pos (get_lt f2)]
        simpa using hg e f2
      · rw [if_neg hjm, List.getElem?_map]
        cases es.toList[m]? with
        | none => rfl
        | some e' => simp [hjm]
    refine ⟨bm, _, _, rfl, wrO_self hlt, ⟨rfl, _, rfl, ?_, rfl, ?_⟩, ?_⟩
    · rw [hmod (fun e => (e.born, e.key)) (e.born, e.key) (fun e' he' => by rw [f2] at he'; cases he'; rfl), hks']
      apply List.ext_getElem?
      intro m
      rw [List.getElem?_set]
      by_cases hjm : j = m
      · subst hjm
        rw [if_pos rfl, hj, if_pos (get_lt hj), hpe]
      · rw [if_neg hjm]
    · intro e' he'
      obtain ⟨m, hm⟩ := List.getElem?_of_mem he'
      simp only [Array.toList_modify, List.getElem?_modify] at hm
      cases hem : es.toList[m]? with
      | none => rw [hem] at hm; simp at hm
      | some e2 =>
        rw [hem] at hm
        have hb2 := hold e2 (List.mem_of_getElem? hem)
        by_cases hjm : j = m
        · simp [hjm] at hm; rw [← hm]; exact hb2
        · simp [hjm] at hm; rw [← hm]; exact hb2
    · rw [hmod (·.val) (a.eval y) (fun e' _ => rfl)]
      exact RelL.set j (hvs.ext E) (ry.ext E)
end
end Go.Ab
/-
  A map of arcs: the small walks (ways, directions).
-/
namespace Go.Proofs.YtcfalmdfohphoaaDoor
open Go Go.Ab
set_option maxRecDepth 100000
abbrev MpT : Ty := .one (.list (.list SpT))
/-- bounds of a map: places of paper, not too many -/
structure MB (m : Shp.Arcs) : Prop where
  few : m.length ≤ 1000
  two : ∀ i, i < m.length → 2 ≤ (Shp.arc m i).length
  len : ∀ i, i < m.length → (Shp.arc m i).length ≤ 10000
  pl : ∀ i t, Shp.inM m i t → plB (Shp.pt m i t) = true
def tos (m : Shp.Arcs) (w : Int) : Shp.Sp := if 0 < w then Shp.at_ (Shp.arcOf m w) ((Shp.arcOf m w).length - 1) else Shp.at_ (Shp.arcOf m w) 0
theorem way_any (G : List (Nat × Value)) (m : Shp.Arcs) (w : Int) (B : MB m) (hw : Shp.isWay m w) (K : AV → List AO → Prop) (hK : K (.tup [.fz SpT (Shp.frm m w), .fz SpT (Shp.nxp m w), .fz SpT (tos m w)]) []) : ACall Tryd.prog G 47 [.fz MpT m, .fz int w] [] K := by
  obtain ⟨h0, h1⟩ := hw
  have hb := B.few
  have h2 := B.two (w.natAbs - 1) (by omega)
  have h3 := B.len (w.natAbs - 1) (by omega)
  have e1 : (max w (-w) - 1).toNat = w.natAbs - 1 := by omega
  have hg : List.getD m (max w (0 - w) - 1).toNat SpT.list.dft = Shp.arcOf m w := by
    unfold Shp.arcOf
    congr 1
    omega
  have h2 : 2 ≤ (Shp.arcOf m w).length := h2
  have h3 : (Shp.arcOf m w).length ≤ 10000 := h3
  unfold Shp.frm Shp.nxp tos at hK
  refine acall_mk (E := envCut G 46 0 [2]) (envCutOk _ _ _ _) Tryd.func47 rfl rfl rfl rfl rfl ?_
  (repeat' (first | exact trivial | refine And.intro ?_ ?_ | (intro hb; try simp at hb) | omega | exact rfl | refine aRegion_auto (by decide +kernel) ?_ | fail))
  refine ⟨[(1, .fz int w), (4, .ptr 1 0), (5, .ptr 2 0), (6, .ptr 3 0), (7, .fz (.list SpT) (Shp.arcOf m w))], [.box [.fz (.list (.list SpT)) m], .box [.fz int 0, .fz int 0], .box [.fz int 0, .fz int 0], .box [.fz int 0, .fz int 0]], Ent.sub ?_ ?_, ?_⟩
  · rfl
  · (repeat' (first | exact trivial | exact rfl | refine And.intro ?_ ?_))
    exact congrArg (fun l => AV.fz (.list SpT) l) hg
  generalize Shp.arcOf m w = a at *
  have f1 : ((a.length : Int) - 1).toNat = a.length - 1 := by omega
  have f2 : ((a.length : Int) - 2).toNat = a.length - 2 := by omega
  by_cases c : 0 < w
  · rw [if_pos c, if_pos c, if_pos c] at hK
    (repeat' (first | exact trivial | refine And.intro ?_ ?_ | (intro hb; try simp at hb) | omega | exact rfl | refine aRegion_auto (by decide +kernel) ?_ | fail))
    (apply exEff; focus (repeat' (first | exact ⟨rfl, rfl⟩ | exact trivial | refine And.intro ?_ ?_ | omega | exact Nat.le_refl _ | (show _ + 1 ≤ 4294967296; omega) | (show _ + 1 ≤ 5864062014634; omega))))
    (repeat' (first | exact trivial | refine And.intro ?_ ?_ | (intro hb; try simp at hb) | omega | exact rfl | refine aRegion_auto (by decide +kernel) ?_ | fail))
    (apply exEff; focus (repeat' (first | exact ⟨rfl, rfl⟩ | exact trivial | refine And.intro ?_ ?_ | omega | exact Nat.le_refl _ | (show _ + 1 ≤ 4294967296; omega) | (show _ + 1 ≤ 5864062014634; omega))))
    (repeat' (first | exact trivial | refine And.intro ?_ ?_ | (intro hb; try simp at hb) | omega | exact rfl | refine aRegion_auto (by decide +kernel) ?_ | fail))
    (apply exEff; focus (repeat' (first | exact ⟨rfl, rfl⟩ | exact trivial | refine And.intro ?_ ?_ | omega | exact Nat.le_refl _ | (show _ + 1 ≤ 4294967296; omega) | (show _ + 1 ≤ 5864062014634; omega))))
    (repeat' (first | exact trivial | refine And.intro ?_ ?_ | (intro hb; try simp at hb) | omega | exact rfl | refine aRegion_auto (by decide +kernel) ?_ | fail))
    refine ⟨_, _, (REnt.conv [.dat SpT, .dat SpT, .dat SpT] _ rfl ?_).trans (REnt.drop ⟨rfl, rfl⟩), ?_⟩
    · trivial
    · rw [f1]
      exact hK
  · rw [if_neg c, if_neg c, if_neg c] at hK
    (repeat' (first | exact trivial | refine And.intro ?_ ?_ | (intro hb; try simp at hb) | omega | exact rfl | refine aRegion_auto (by decide +kernel) ?_ | fail))
    (apply exEff; focus (repeat' (first | exact ⟨rfl, rfl⟩ | exact trivial | refine And.intro ?_ ?_ | omega | exact Nat.le_refl _ | (show _ + 1 ≤ 4294967296; omega) | (show _ + 1 ≤ 5864062014634; omega))))
    (repeat' (first | exact trivial | refine And.intro ?_ ?_ | (intro hb; try simp at hb) | omega | exact rfl | refine aRegion_auto (by decide +kernel) ?_ | fail))
    (apply exEff; focus (repeat' (first | exact ⟨rfl, rfl⟩ | exact trivial | refine And.intro ?_ ?_ | omega | exact Nat.le_refl _ | (show _ + 1 ≤ 4294967296; omega) | (show _ + 1 ≤ 5864062014634; omega))))
    (repeat' (first | exact trivial | refine And.intro ?_ ?_ | (intro hb; try simp at hb) | omega | exact rfl | refine aRegion_auto (by decide +kernel) ?_ | fail))
    (apply exEff; focus (repeat' (first | exact ⟨rfl, rfl⟩ | exact trivial | refine And.intro ?_ ?_ | omega | exact Nat.le_refl _ | (show _ + 1 ≤ 4294967296; omega) | (show _ + 1 ≤ 5864062014634; omega))))
    (repeat' (first | exact trivial | refine And.intro ?_ ?_ | (intro hb; try simp at hb) | omega | exact rfl | refine aRegion_auto (by decide +kernel) ?_ | fail))
    refine ⟨_, _, (REnt.conv [.dat SpT, .dat SpT, .dat SpT] _ rfl ?_).trans (REnt.drop ⟨rfl, rfl⟩), ?_⟩
    · trivial
    · rw [f1, f2]
      exact hK
theorem wayEnds_any (G : List (Nat × Value)) (m : Shp.Arcs) (w : Int) (B : MB m) (hw : Shp.isWay m w) (K : AV → List AO → Prop) (hK : K (.tup [.fz SpT (Shp.frm m w), .fz SpT (Shp.nxp m w), .fz SpT (tos m w)]) []) : ACall Tryd.prog G 58 [.fptr MpT m, .fz int w] [] K := by
  obtain ⟨h0, h1⟩ := hw
  have hb := B.few
  have h2 := B.two (w.natAbs - 1) (by omega)
  have h3 := B.len (w.natAbs - 1) (by omega)
  have h2 : 2 ≤ (Shp.arcOf m w).length := h2
  have h3 : (Shp.arcOf m w).length ≤ 10000 := h3
  unfold Shp.frm Shp.nxp tos at hK
  by_cases c : 0 < w
  · rw [if_pos c, if_pos c, if_pos c] at hK
    have hg : List.getD m (w - 1).toNat SpT.list.dft = Shp.arcOf m w := by
      unfold Shp.arcOf
      congr 1
      omega
    refine acall_mk (E := envCut G 55 0 [3]) (envCutOk _ _ _ _) Tryd.func58 rfl rfl rfl rfl rfl ?_
    (repeat' (first | exact trivial | refine And.intro ?_ ?_ | (intro hb; try simp at hb) | omega | exact rfl | refine aRegion_auto (by decide +kernel) ?_ | fail))
    refine ⟨[(4, .ptr 0 0), (5, .ptr 1 0), (6, .ptr 2 0), (7, .fz (.list SpT) (Shp.arcOf m w))], [.box [.fz int 0, .fz int 0], .box [.fz int 0, .fz int 0], .box [.fz int 0, .fz int 0]], Ent.sub ?_ ?_, ?_⟩
    · rfl
    · (repeat' (first | exact trivial | exact rfl | refine And.intro ?_ ?_))
      exact congrArg (fun l => AV.fz (.list SpT) l) hg
    generalize Shp.arcOf m w = a at *
    have f1 : ((a.length : Int) - 1).toNat = a.length - 1 := by omega
    (repeat' (first | exact trivial | refine And.intro ?_ ?_ | (intro hb; try simp at hb) | omega | exact rfl | refine aRegion_auto (by decide +kernel) ?_ | fail))
    (apply exEff; focus (repeat' (first | exact ⟨rfl, rfl⟩ | exact trivial | refine And.intro ?_ ?_ | omega | exact Nat.le_refl _ | (show _ + 1 ≤ 4294967296; omega) | (show _ + 1 ≤ 5864062014634; omega))))
    (repeat' (first | exact trivial | refine And.intro ?_ ?_ | (intro hb; try simp at hb) | omega | exact rfl | refine aRegion_auto (by decide +kernel) ?_ | fail))
    (apply exEff; focus (repeat' (first | exact ⟨rfl, rfl⟩ | exact trivial | refine And.intro ?_ ?_ | omega | exact Nat.le_refl _ | (show _ + 1 ≤ 4294967296; omega) | (show _ + 1 ≤ 5864062014634; omega))))
    (repeat' (first | exact trivial | refine And.intro ?_ ?_ | (intro hb; try simp at hb) | omega | exact rfl | refine aRegion_auto (by decide +kernel) ?_ | fail))
    (apply exEff; focus (repeat' (first | exact ⟨rfl, rfl⟩ | exact trivial | refine And.intro ?_ ?_ | omega | exact Nat.le_refl _ | (show _ + 1 ≤ 4294967296; omega) | (show _ + 1 ≤ 5864062014634; omega))))
    (repeat' (first | exact trivial | refine And.intro ?_ ?_ | (intro hb; try simp at hb) | omega | exact rfl | refine aRegion_auto (by decide +kernel) ?_ | fail))
    refine ⟨_, _, (REnt.conv [.dat SpT, .dat SpT, .dat SpT] _ rfl ?_).trans (REnt.drop ⟨rfl, rfl⟩), ?_⟩
    · trivial
    · rw [f1]
      exact hK
  · rw [if_neg c, if_neg c, if_neg c] at hK
    have hg : List.getD m (0 - w - 1).toNat SpT.list.dft = Shp.arcOf m w := by
      unfold Shp.arcOf
      congr 1
      omega
    refine acall_mk (E := envCut G 55 0 [5]) (envCutOk _ _ _ _) Tryd.func58 rfl rfl rfl rfl rfl ?_
    (repeat' (first | exact trivial | refine And.intro ?_ ?_ | (intro hb; try simp at hb) | omega | exact rfl | refine aRegion_auto (by decide +kernel) ?_ | fail))
    refine ⟨[(4, .ptr 0 0), (5, .ptr 1 0), (6, .ptr 2 0), (8, .fz (.list SpT) (Shp.arcOf m w))], [.box [.fz int 0, .fz int 0], .box [.fz int 0, .fz int 0], .box [.fz int 0, .fz int 0]], Ent.sub ?_ ?_, ?_⟩
    · rfl
    · (repeat' (first | exact trivial | exact rfl | refine And.intro ?_ ?_))
      exact congrArg (fun l => AV.fz (.list SpT) l) hg
    generalize Shp.arcOf m w = a at *
    have f1 : ((a.length : Int) - 1).toNat = a.length - 1 := by omega
    have f2 : ((a.length : Int) - 2).toNat = a.length - 2 := by omega
    (repeat' (first | exact trivial | refine And.intro ?_ ?_ | (intro hb; try simp at hb) | omega | exact rfl | refine aRegion_auto (by decide +kernel) ?_ | fail))
    (apply exEff; focus (repeat' (first | exact ⟨rfl, rfl⟩ | exact trivial | refine And.intro ?_ ?_ | omega | exact Nat.le_refl _ | (show _ + 1 ≤ 4294967296; omega) | (show _ + 1 ≤ 5864062014634; omega))))
    (repeat' (first | exact trivial | refine And.intro ?_ ?_ | (intro hb; try simp at hb) | omega | exact rfl | refine aRegion_auto (by decide +kernel) ?_ | fail))
    (apply exEff; focus (repeat' (first | exact ⟨rfl, rfl⟩ | exact trivial | refine And.intro ?_ ?_ | omega | exact Nat.le_refl _ | (show _ + 1 ≤ 4294967296; omega) | (show _ + 1 ≤ 5864062014634; omega))))
    (repeat' (first | exact trivial | refine And.intro ?_ ?_ | (intro hb; try simp at hb) | omega | exact rfl | refine aRegion_auto (by decide +kernel) ?_ | fail))
    (apply exEff; focus (repeat' (first | exact ⟨rfl, rfl⟩ | exact trivial | refine And.intro ?_ ?_ | omega | exact Nat.le_refl _ | (show _ + 1 ≤ 4294967296; omega) | (show _ + 1 ≤ 5864062014634; omega))))
    (repeat' (first | exact trivial | refine And.intro ?_ ?_ | (intro hb; try simp at hb) | omega | exact rfl | refine aRegion_auto (by decide +kernel) ?_ | fail))
    refine ⟨_, _, (REnt.conv [.dat SpT, .dat SpT, .dat SpT] _ rfl ?_).trans (REnt.drop ⟨rfl, rfl⟩), ?_⟩
    · trivial
    · rw [f1, f2]
      exact hK
end Go.Proofs.YtcfalmdfohphoaaDoor
/-
  slices.Delete of one place: the walk, by hand.
-/
namespace Go.Proofs.YtcfalmdfohphoaaDoor.delK
open Go Go.Ab Go.RowKit Go.Lib
set_option maxRecDepth 100000
variable {P : Program}
theorem cells_heap {W : World} {bb : Nat} {cs : Array Value} {tt : TypeId} (j : Nat) (h : W.heap[bb]? = some (.cells cs tt (0, 0))) : W.cell? ⟨bb, j, none⟩ = cs.toList[j]? := by simp [World.cell?, h]
theorem step_run {ops : Array Oper} {o : Oper} {a : Act} {w : World} {K : Act → World → Prop} {Q : Exit → Act → World → Prop} {E : Prop}
    (hg : o.guard = none) (d x : Operand) (dT sT : TypeId) (hop : o.op = Op.call { callee := Callee.builtin Builtin.append, args := #[d, x], argTypes := #[dT, sT] })
    (v u : Value) (hd : a.eval d = v) (hx : a.eval x = u) {v' : Value} {w' : World} (hr : (Builtin.append_ #[dT, sT] o.type #[v, u]).run P w = .ok v' w') (hK : K (a.put o.dst v') w') :
    if Region.wanted o (yielded ops a.tmps) = true then Oper.wp P o a w K Q else E := by
  have hw : Region.wanted o (yielded ops a.tmps) = true := by simp [Region.wanted, hg]
  rw [if_pos hw]
  unfold Oper.wp execOp
  simp only [hop, resolve, invoke, builtin, Sem.run_bind, Sem.run_pure, Result.andThen_ok, List.map_toArray, List.map_cons, List.map_nil, hd, hx, hr]
  exact hK
theorem wpList_clear_run (w : World) {ops : Array Oper} {rest : List Oper} {o : Oper} {a : Act} {Q : Exit → Act → World → Prop} (hgd : o.guard = none) (s : Operand) (t : TypeId)
    (ho : o.op = .call { callee := .builtin .clear, args := #[s], argTypes := #[t] }) (v : Value) (hd : a.eval s = v) {v' : Value} {w' : World}
    (hr : (Builtin.clear_ #[t] o.type #[v]).run P w = .ok v' w') (h : wpList P ops Q rest (a.put o.dst v') w') : wpList P ops Q (o :: rest) a w :=
  wpList_plain hgd fun K hK => by
    unfold Oper.wp execOp
    simp only [ho, resolve, invoke, builtin, Sem.run_bind, Sem.run_pure, Result.andThen_ok, List.map_toArray, List.map_cons, List.map_nil, hd, hr]
    exact hK _ _ h
theorem del_walk (b n k cap : Nat) (w W1 W2 : World) (A : Addr) (hk : k < n) (hnc : n ≤ cap) (hn : n ≤ 4294967296) (hA : (if cap = k + 1 then some (⟨b, 0, none⟩ : Addr) else some ⟨b, (k + 1) * 2, none⟩) = some A)
    (hap : ∀ ty sc, (Builtin.append_ #[44, 44] ty #[.slice (some ⟨b, 0, none⟩) k cap, .slice (some A) (n - (k + 1)) sc]).run Tryd.prog w.drew = .ok (.slice (some ⟨b, 0, none⟩) (n - 1) cap) W1)
    (hcl : ∀ ty sc, (Builtin.clear_ #[44] ty #[.slice (some ⟨b, (n - 1) * 2, none⟩) 1 sc]).run Tryd.prog W1 = .ok (.tuple #[]) W2) :
    Calls Tryd.prog 32 #[.slice (some ⟨b, 0, none⟩) n cap, .int .i64 k, .int .i64 ((k : Int) + 1)] w fun e w' =>
      e = .returned (.slice (some ⟨b, 0, none⟩) (n - 1) cap) ∧ w' = W2 := by
  have h1 : ¬ ((k : Int) = (k : Int) + 1) := by omega
  have h2 : (0 : Int) ≤ (k : Int) + 1 := by omega
  have h3 : ((k : Int) + 1).toNat = k + 1 := by omega
  have h4 : k + 1 ≤ n := by omega
  have h5 : k ≤ k + 1 := by omega
  have h6 : (k : Int) ≤ (k : Int) + 1 := by omega
  have h7 : (k : Int) + 1 ≤ (n : Int) := by omega
  have h8 : k ≤ cap := by omega
  have h9 : k + 1 ≤ cap := by omega
  have h10 : ((n - 1 : Nat) : Int) ≤ (n : Int) := by omega
  have h11 : n - 1 ≤ n := by omega
  have h12 : n - (n - 1) = 1 := by omega
  have h13 : ¬ (cap = n - 1) := by omega
  have h14 : (n : Int) ≤ (cap : Int) := by omega
  go_enter Tryd.func32, Tryd.ntmps32
  go_wp2_with fail
  go_region_law (first | (refine step_run rfl _ _ 44 44 rfl (.slice (some ⟨b, 0, none⟩) k cap) (.slice (some A) (n - (k + 1)) (cap - (k + 1))) (by simp [Act.eval, Act.put]) (by simp [Act.eval, Act.put]) (hap _ _) ?_) | (trace_state; fail))
  go_wp2_with (at_builtin; refine wpList_clear_run _ rfl _ 44 rfl _ rfl (hcl _ _) ?_)
  go_ret
  exact ⟨rfl, rfl⟩
end Go.Proofs.YtcfalmdfohphoaaDoor.delK
/-
  slices.Delete of one place, in the row's own block.
-/
namespace Go.Proofs.YtcfalmdfohphoaaDoor
open Go Go.Ab Go.RowKit
set_option maxRecDepth 100000
namespace delK
theorem und : (Tryd.prog).underlying 44 = some (.slice 46) := rfl
theorem zer (w : World) : (zeroValue 46).run Tryd.prog w = .ok (.agg #[.int .i64 0, .int .i64 0]) w := by kernel_rfl
theorem delete_raw (b n k cap : Nat) (cs : Array Value) (et : TypeId) (L R : List Value) (w : World) (hk : k < n) (hnc : n ≤ cap) (hn : n ≤ 4294967296) (hh : w.heap[b]? = some (.cells cs et (0, 0))) (hc : cs.toList = L ++ R) (hL : L.length = n * 2)
    (h1 : ∀ v ∈ L, v.oneCell' = true) : Calls Tryd.prog 32 #[.slice (some ⟨b, 0, none⟩) n cap, .int .i64 k, .int .i64 ((k : Int) + 1)] w fun e w' =>
      e = .returned (.slice (some ⟨b, 0, none⟩) (n - 1) cap) ∧ ∃ cs' R', w'.heap[b]? = some (.cells cs' et (0, 0)) ∧ (∀ j, j ≠ b → w'.heap[j]? = w.heap[j]?) ∧ w'.heap.size = w.heap.size ∧ WSame w w' ∧ cs'.size = cs.size ∧ cs'.toList = (L.take (k * 2) ++ L.drop ((k + 1) * 2)) ++ R' := by
  obtain ⟨A, hA⟩ : ∃ A : Addr, (if cap = k + 1 then some (⟨b, 0, none⟩ : Addr) else some ⟨b, (k + 1) * 2, none⟩) = some A := by
    by_cases h : cap = k + 1
    · exact ⟨_, if_pos h⟩
    · exact ⟨_, if_neg h⟩
  obtain ⟨M, hM⟩ : ∃ M, L.drop ((k + 1) * 2) = M := ⟨_, rfl⟩
  have hMl : M.length = (n - (k + 1)) * 2 := by rw [← hM, List.length_drop, hL]; omega
  have hLc : L.length ≤ cs.size := by rw [← Array.length_toList, hc]; simp
  have hst1 := run_storeCells_at Tryd.prog b (k * 2) et M 0 cs w.drew hh (by omega) (fun u hu => h1 u (by rw [← hM] at hu; exact List.mem_of_mem_drop hu))
  simp only [Nat.add_zero] at hst1
  have hx1 : (setRange cs.toList (k * 2) M).toArray.size = cs.size := setRange_size (by omega)
  have hload : (loadCells A M.length).run Tryd.prog w.drew = .ok M.toArray w.drew := by
    by_cases hcap : cap = k + 1
    · have : M = [] := List.length_eq_zero_iff.1 (by rw [hMl]; omega)
      subst this; rfl
    · rw [if_neg hcap] at hA
      cases hA
      have := run_loadCells_list (P := Tryd.prog) w.drew ⟨b, (k + 1) * 2, none⟩ M (fun j u hj => by
        rw [plain_add, cells_heap (W := w.drew) _ hh, hc]
        rw [← hM, List.getElem?_drop] at hj
        rw [List.getElem?_append_left (get_lt hj)]; exact hj)
      exact this
  obtain ⟨cs1, hcs1⟩ : ∃ cs1, (setRange cs.toList (k * 2) M).toArray = cs1 := ⟨_, rfl⟩
  have hcs1' : (List.take (k * 2) cs.toList ++ M ++ List.drop (k * 2 + M.length) cs.toList).toArray = cs1 := hcs1
  rw [hcs1] at hx1
  have hh1 : (w.drew.setRow b cs1).heap[b]? = some (.cells cs1 et (0, 0)) := setRow_heap w.drew b _ _ et (0, 0) hh
  have hst2 := run_storeCells_at Tryd.prog b ((n - 1) * 2) et [.int .i64 0, .int .i64 0] 0 cs1 (w.drew.setRow b cs1) hh1 (by rw [hx1]; show (n - 1) * 2 + 0 + 2 ≤ cs.size; omega) (fun u hu => by
    simp only [List.mem_cons, List.not_mem_nil, or_false] at hu
    rcases hu with rfl | rfl <;> rfl)
  simp only [Nat.add_zero] at hst2
  obtain ⟨cs2, hcs2⟩ : ∃ cs2, (setRange cs1.toList ((n - 1) * 2) [Value.int .i64 0, .int .i64 0]).toArray = cs2 := ⟨_, rfl⟩
  have hcs2' : (List.take ((n - 1) * 2) cs1.toList ++ [Value.int .i64 0, .int .i64 0] ++ List.drop ((n - 1) * 2 + [Value.int .i64 0, .int .i64 0].length) cs1.toList).toArray = cs2 := hcs2
  have hx2 : cs2.size = cs1.size := by rw [← hcs2]; exact setRange_size (by rw [hx1]; show (n - 1) * 2 + 2 ≤ cs.size; omega)
  refine (del_walk b n k cap w (w.drew.setRow b cs1) ((w.drew.setRow b cs1).setRow b cs2) A hk hnc hn hA (fun ty sc => ?_) (fun ty sc => ?_)).mono fun e w' ⟨h1, h2⟩ => ⟨h1, cs2, cs2.toList.drop ((n - 1) * 2), ?_, ?_, ?_, ?_, hx2.trans hx1, ?_⟩
  · rw [hMl] at hload
    have e1 : k + (n - (k + 1)) = n - 1 := by omega
    have e2 : k + (n - (k + 1)) ≤ cap := by omega
    rw [← hcs1']
    simp [Builtin.append_, run_underlying' und, Builtin.lenOf, e1, show n - 1 ≤ cap by omega, Builtin.firstCells, hload, Addr.add_lit, hst1]
  · have hzc : (Builtin.zeroCells (Value.agg #[Value.int .i64 0, .int .i64 0]).cells 1).toList = [Value.int .i64 0, .int .i64 0] := by simp [Builtin.zeroCells, Value.cells, List.range, List.range.loop]
    rw [← hcs2']
    simp [Builtin.clear_, run_underlying' und, hzc, hst2]
  · rw [h2]; exact setRow_heap _ b _ _ et (0, 0) hh1
  · intro j hj
    rw [h2, setRow_other _ b j _ hj, setRow_other _ b j _ hj]; rfl
  · rw [h2, setRow_size, setRow_size]; rfl
  · rw [h2]; exact ⟨rfl, rfl, rfl⟩
  · have hp : (L.take (k * 2) ++ M).length = (n - 1) * 2 := by rw [List.length_append, List.length_take, hMl, hL]; omega
    have h3 : cs1.toList.take ((n - 1) * 2) = L.take (k * 2) ++ M := by
      rw [← hcs1']
      show List.take _ (List.take (k * 2) cs.toList ++ M ++ _) = _
      have hl : (List.take (k * 2) cs.toList ++ M).length = (n - 1) * 2 := by rw [List.length_append, List.length_take, hMl, Array.length_toList]; omega
      rw [← hl, List.take_left, hc, List.take_append_of_le_length (by omega)]
    have h4 : cs2.toList.take ((n - 1) * 2) = L.take (k * 2) ++ M := by
      rw [← hcs2', ← h3]
      show List.take _ (List.take ((n - 1) * 2) cs1.toList ++ _ ++ _) = _
      have : (List.take ((n - 1) * 2) cs1.toList).length = (n - 1) * 2 := by rw [List.length_take, Array.length_toList, hx1]; omega
      rw [List.append_assoc, List.take_append_of_le_length (by omega), List.take_take, Nat.min_self]
    rw [hM, ← h4, List.take_append_drop]
end delK
end Go.Proofs.YtcfalmdfohphoaaDoor
/-
  Arcs in rows of their own, held by a slice that a variable holds: what the heap says of them; what a deletion and an append make of it.
-/
namespace Go.Proofs.YtcfalmdfohphoaaDoor
open Go Go.Ab Go.RowKit
set_option maxRecDepth 100000
namespace thin
abbrev Arc := List SpT.den
theorem cells_flat {I I' : Nat → Prop} {w w' : World} {xs : Arc} {L : List Value} (h : Cells I w SpT xs L) : Cells I' w' SpT xs L := ⟨h.1, fun i hi => (h.2 i hi).flat rfl⟩
/-- a slice v of block b's first places: these -/
def ArcR (lo : Nat) (w : World) (v : Value) (b : Nat) (xs : Arc) : Prop :=
  ∃ cap cs et L R, v = .slice (some ⟨b, 0, none⟩) xs.length cap ∧ lo ≤ b ∧ xs.length ≤ cap ∧ w.heap[b]? = some (.cells cs et (0, 0)) ∧ cs.toList = L ++ R ∧ Cells (fun _ => True) w SpT xs L
theorem ArcR.keep {lo : Nat} {w w' : World} {v : Value} {b : Nat} {xs : Arc} (h : ArcR lo w v b xs) (hw : w'.heap[b]? = w.heap[b]?) : ArcR lo w' v b xs := by
  obtain ⟨cap, cs, et, L, R, h1, h2, h3, h4, h5, h6⟩ := h
  exact ⟨cap, cs, et, L, R, h1, h2, h3, hw.trans h4, h5, cells_flat h6⟩
/-- the slice's own row -/
def ArrR (lo : Nat) (w : World) (b7 : Nat) (hdr : Value) (hs : List Value) (bs : List Nat) : Prop :=
  (hs = [] ∧ hdr = .slice none 0 0) ∨ ∃ bA cap cs et R, hdr = .slice (some ⟨bA, 0, none⟩) hs.length cap ∧ lo ≤ bA ∧ bA ≠ b7 ∧ bA ∉ bs ∧ w.heap[bA]? = some (.cells cs et (0, 0)) ∧ cs.toList = hs ++ R ∧ hs.length ≤ cap ∧ cap ≤ cs.size ∧ 0 < hs.length
structure ThW (lo : Nat) (w : World) (b7 : Nat) (hdr : Value) (hs : List Value) (bs : List Nat) (outs : List Arc) : Prop where
  lo7 : lo ≤ b7
  h7 : ∃ et, w.heap[b7]? = some (.cells #[hdr] et (0, 0))
  lh : hs.length = outs.length
  lb : bs.length = outs.length
  nd : bs.Nodup
  n7 : b7 ∉ bs
  arr : ArrR lo w b7 hdr hs bs
  arc : ∀ j (h : j < outs.length), ArcR lo w (hs.getD j undef) (bs.getD j 0) outs[j]
theorem lt_of {w : World} {b : Nat} {o : Obj} (h : w.heap[b]? = some o) : b < w.heap.size := some_lt h
theorem ThW.keep {lo : Nat} {w w' : World} {b7 : Nat} {hdr : Value} {hs : List Value} {bs : List Nat} {outs : List Arc} (h : ThW lo w b7 hdr hs bs outs) (hw : ∀ b, b < w.heap.size → w'.heap[b]? = w.heap[b]?) : ThW lo w' b7 hdr hs bs outs := by
  obtain ⟨h1, ⟨et, h2⟩, h3, h4, h5, h6, h7, h8⟩ := h
  refine ⟨h1, ⟨et, (hw _ (lt_of h2)).trans h2⟩, h3, h4, h5, h6, ?_, fun j hj => ?_⟩
  · rcases h7 with h7 | ⟨bA, cap, cs, et, R, q1, q2, q3, q4, q5, q6⟩
    · exact .inl h7
    · exact .inr ⟨bA, cap, cs, et, R, q1, q2, q3, q4, (hw _ (lt_of q5)).trans q5, q6⟩
  · have := h8 j hj
    obtain ⟨cap, cs, et, L, R, p1, p2, p3, p4, p5⟩ := this
    exact (h8 j hj).keep (hw _ (lt_of p4))
/-- seen as data -/
theorem ArcR.fz {lo : Nat} {w : World} {v : Value} {b : Nat} {xs : Arc} (h : ArcR lo w v b xs) : FzC (fun _ => True) w (.list SpT) xs [v] := by
  obtain ⟨cap, cs, et, L, R, rfl, _, h3, h4, h5, h6⟩ := h
  refine ⟨some ⟨b, 0, none⟩, cap, rfl, h3, fun i hi => ?_⟩
  have h2 := h6.2 i hi
  refine ⟨b, 0, _, rfl, trivial, lt_of h4, h2, fun j hj => ?_⟩
  have e : ((L.drop (i * SpT.size)).take SpT.size)[j]? = some ((L.drop (i * SpT.size)).take SpT.size)[j] := List.getElem?_eq_getElem hj
  rw [List.length_take] at hj
  rw [List.getElem?_take, if_pos (by omega), List.getElem?_drop] at e
  rw [delK.cells_heap _ h4, h5, Nat.zero_add, List.getElem?_append_left (get_lt e)]
  exact e
theorem ThW.fz {lo : Nat} {w : World} {b7 : Nat} {hdr : Value} {hs : List Value} {bs : List Nat} {outs : List Arc} (h : ThW lo w b7 hdr hs bs outs) : FzC (fun _ => True) w MpT outs [hdr] := by
  show FzC (fun _ => True) w (.list (.list SpT)) outs [hdr]
  have hlh := h.lh
  rcases h.arr with ⟨h1, rfl⟩ | ⟨bA, cap, cs, et, R, rfl, q2, q3, q4, q5, q6, q7, q8, q9⟩
  · have h0 : outs = [] := List.eq_nil_of_length_eq_zero (by rw [← hlh, h1]; rfl)
    subst h0
    exact ⟨none, 0, rfl, Nat.le_refl _, fun i hi => absurd hi (Nat.not_lt_zero _)⟩
  · refine ⟨some ⟨bA, 0, none⟩, cap, by rw [hlh], by rw [← hlh]; exact q7, fun i hi => ?_⟩
    have h2 := (h.arc i hi).fz
    refine ⟨bA, 0, _, rfl, trivial, lt_of q5, h2, fun j hj => ?_⟩
    have hj : j < 1 := hj
    obtain rfl : j = 0 := by omega
    rw [delK.cells_heap _ q5, q6]
    have hi' : i < hs.length := by rw [hlh]; exact hi
    show (hs ++ R)[0 + i * 1 + 0]? = some (hs.getD i undef)
    rw [Nat.zero_add, Nat.mul_one, Nat.add_zero, List.getElem?_append_left hi', List.getD_eq_getElem?_getD, List.getElem?_eq_getElem hi']
    rfl
theorem ThW.rel {lo : Nat} {w : World} {b7 : Nat} {hdr : Value} {hs : List Value} {bs : List Nat} {outs : List Arc} (h : ThW lo w b7 hdr hs bs outs) (G : List (Nat × Value)) : Rel (Cx.start G w) (.fptr MpT outs) (.pointer (some ⟨b7, 0, none⟩)) := by
  obtain ⟨et, h2⟩ := h.h7
  unfold Rel
  refine ⟨b7, 0, [hdr], rfl, start_I b7, lt_of h2, start_fz h.fz, fun j hj => ?_⟩
  have hj : j < 1 := hj
  obtain rfl : j = 0 := by omega
  show w.cell? ⟨b7, 0, none⟩ = some hdr
  rw [delK.cells_heap _ h2]; rfl
/-! ### a deletion -/
theorem ThW.del {lo : Nat} {w w' : World} {b7 : Nat} {hdr : Value} {hs : List Value} {bs : List Nat} {outs : List Arc} (h : ThW lo w b7 hdr hs bs outs) {i : Nat} (hi : i < outs.length) {xs : Arc} {v : Value} (hx : ArcR lo w' v (bs.getD i 0) xs)
    (hw : ∀ b, b ≠ bs.getD i 0 → (∀ bA cap n, hdr = .slice (some ⟨bA, 0, none⟩) n cap → b ≠ bA) → w'.heap[b]? = w.heap[b]?)
    (hA : ∀ bA cap n cs et, hdr = .slice (some ⟨bA, 0, none⟩) n cap → w.heap[bA]? = some (.cells cs et (0, 0)) → w'.heap[bA]? = some (.cells (setRange cs.toList i [v]).toArray et (0, 0))) :
    ThW lo w' b7 hdr (hs.set i v) bs (outs.set i xs) := by
  have hlh := h.lh
  have hlb := h.lb
  have hbi : bs.getD i 0 ∈ bs := by rw [List.getD_eq_getElem?_getD, List.getElem?_eq_getElem (by omega)]; exact List.getElem_mem _
  obtain ⟨et7, h7⟩ := h.h7
  rcases h.arr with ⟨h1, _⟩ | ⟨bA, cap, cs, et, R, e1, q2, q3, q4, q5, q6, q7, q8, q9⟩
  · rw [h1] at hlh; simp at hlh; omega
  have hne : ∀ b, b ∈ bs ∨ b = b7 → ∀ bA' cap' n', hdr = .slice (some ⟨bA', 0, none⟩) n' cap' → b ≠ bA' := fun b hb bA' cap' n' e => by
    rw [e1] at e
    cases e
    rintro rfl
    rcases hb with hb | hb
    · exact q4 hb
    · exact q3 hb
  refine ⟨h.lo7, ⟨et7, (hw b7 (fun e => h.n7 (by rw [e]; exact hbi)) (hne b7 (.inr rfl))).trans h7⟩, by rw [List.length_set, List.length_set, hlh], by rw [List.length_set, hlb], h.nd, h.n7, ?_, fun j hj => ?_⟩
  · have hA' := hA bA cap _ cs et e1 q5
    have e2 : (setRange cs.toList i [v]) = hs.set i v ++ R := by
      rw [q6]
      unfold setRange
      have hi' : i < hs.length := by omega
      rw [List.take_append_of_le_length (by omega), List.drop_append_of_le_length (by simp; omega), List.set_eq_take_append_cons_drop, if_pos hi']
      simp
    refine .inr ⟨bA, cap, _, et, R, by rw [List.length_set]; exact e1, q2, q3, q4, hA', by rw [e2], by rw [List.length_set]; exact q7, ?_, by rw [List.length_set]; exact q9⟩
    have : (setRange cs.toList i [v]).toArray.size = cs.size := setRange_size (by simp; omega)
    omega
  · rw [List.length_set] at hj
    by_cases hji : j = i
    · subst hji
      rw [List.getElem_set_self, List.getD_eq_getElem?_getD, List.getElem?_set_self (by omega)]
      exact hx
    · rw [List.getElem_set_ne (fun e => hji e.symm), List.getD_eq_getElem?_getD, List.getElem?_set_ne (fun e => hji e.symm), ← List.getD_eq_getElem?_getD]
      have hbj : bs.getD j 0 ∈ bs := by rw [List.getD_eq_getElem?_getD, List.getElem?_eq_getElem (by omega)]; exact List.getElem_mem _
      refine (h.arc j hj).keep (hw _ (fun e => ?_) (hne _ (.inl hbj)))
      rw [List.getD_eq_getElem?_getD, List.getD_eq_getElem?_getD, List.getElem?_eq_getElem (by omega), List.getElem?_eq_getElem (by omega)] at e
      exact hji ((List.getElem_inj h.nd).1 e)
/-! ### one arc more -/
theorem ThW.app {lo : Nat} {w w' : World} {b7 : Nat} {hdr hdr' : Value} {hs : List Value} {bs : List Nat} {outs : List Arc} (h : ThW lo w b7 hdr hs bs outs) {v : Value} {b : Nat} {xs : Arc} (hx : ArcR lo w' v b xs) (hb : b ∉ bs) (hb7 : b ≠ b7) {bA : Nat}
    (hw : ∀ k, k < w.heap.size → k ≠ b7 → k ≠ bA → w'.heap[k]? = w.heap[k]?) (h7 : ∃ et, w'.heap[b7]? = some (.cells #[hdr'] et (0, 0))) (hA : ArrR lo w' b7 hdr' (hs ++ [v]) (bs ++ [b])) (hAn : bA ∉ bs) :
    ThW lo w' b7 hdr' (hs ++ [v]) (bs ++ [b]) (outs ++ [xs]) := by
  have hlh := h.lh
  have hlb := h.lb
  refine ⟨h.lo7, h7, by simp [hlh], by simp [hlb], ?_, ?_, hA, fun j hj => ?_⟩
  · rw [List.nodup_append]
    refine ⟨h.nd, by simp, fun x hx2 y hy e => ?_⟩
    simp at hy
    rw [e, hy] at hx2
    exact hb hx2
  · rw [List.mem_append, not_or]
    exact ⟨h.n7, by simpa using fun e => hb7 e.symm⟩
  · rw [List.length_append] at hj
    simp only [List.length_cons, List.length_nil] at hj
    by_cases hji : j < outs.length
    · rw [List.getElem_append_left hji, List.getD_eq_getElem?_getD, List.getElem?_append_left (by omega), ← List.getD_eq_getElem?_getD, List.getD_eq_getElem?_getD (l := bs ++ [b]), List.getElem?_append_left (by omega), ← List.getD_eq_getElem?_getD]
      have hbj : bs.getD j 0 ∈ bs := by rw [List.getD_eq_getElem?_getD, List.getElem?_eq_getElem (by omega)]; exact List.getElem_mem _
      obtain ⟨cap, cs, et, L, R, p1, p2, p3, p4, p5⟩ := h.arc j hji
      exact (h.arc j hji).keep (hw (bs.getD j 0) (lt_of p4) (fun e => h.n7 (by rw [← e]; exact hbj)) (fun e => hAn (by rw [← e]; exact hbj)))
    · have : j = outs.length := by omega
      subst this
      rw [List.getElem_append_right (Nat.le_refl _), List.getD_eq_getElem?_getD, List.getElem?_append_right (by omega), List.getD_eq_getElem?_getD, List.getElem?_append_right (by omega), hlh, hlb]
      simpa using hx
end thin
end Go.Proofs.YtcfalmdfohphoaaDoor
/-
  One arc more: the run of append.
-/
namespace Go.Proofs.YtcfalmdfohphoaaDoor
open Go Go.Ab Go.RowKit
set_option maxRecDepth 100000
namespace thin
theorem und2 : (Tryd.prog).underlying 31 = some (.slice 44) := rfl
theorem app_run {lo : Nat} {w : World} {b7 : Nat} {hdr : Value} {hs : List Value} {bs : List Nat} {outs : List Arc} (h : ThW lo w b7 hdr hs bs outs) (hlo : lo ≤ w.heap.size) (hn : outs.length ≤ 100000) {v : Value} (hv : v.oneCell' = true) {b s : Nat} {et : TypeId} (ty : TypeId)
    (hb : b < w.heap.size) (hbA : ∀ bA cap n, hdr = .slice (some ⟨bA, 0, none⟩) n cap → b ≠ bA) (hs0 : w.heap[s]? = some (.cells #[v] et (0, 0))) :
    ∃ hdr' w1 bA, (Builtin.append_ #[31, 31] ty #[hdr, .slice (some ⟨s, 0, none⟩) 1 1]).run Tryd.prog w = .ok hdr' w1 ∧ (∀ k, k < w.heap.size → k ≠ bA → w1.heap[k]? = w.heap[k]?) ∧ bA ∉ bs ∧ bA ≠ b7 ∧ lo ≤ bA ∧ bA ≠ b ∧
      WSame w w1 ∧ w.heap.size ≤ w1.heap.size ∧ ArrR lo w1 b7 hdr' (hs ++ [v]) (bs ++ [b]) := by
  have hlh := h.lh
  have hfirst : ∀ w' : World, w'.heap = w.heap → (Builtin.firstCells 1 1 (.slice (some ⟨s, 0, none⟩) 1 1)).run Tryd.prog w' = .ok [v].toArray w' := fun w' hw' => by
    have := run_loadCells_list (P := Tryd.prog) w' ⟨s, 0, none⟩ [v] (fun j u hj => by
      have hj0 : j = 0 := by have := get_lt hj; simp at this; omega
      subst hj0
      rw [plain_add, heap_cell hw', delK.cells_heap _ hs0]
      simpa using hj)
    exact this
  have hlen : (Builtin.lenOf (.slice (some ⟨s, 0, none⟩) 1 1)).run Tryd.prog w = .ok 1 w := rfl
  have hd : TabOk Tryd.prog tab := tabOk
  have hti : (Tryd.prog).info? 44 = some Tryd.t44 := rfl
  have hz1 : (Tryd.t44).size = 1 := rfl
  have hby : (Tryd.t44).bytes = 24 := rfl
  have hnot : notInt tab 31 = true := by decide +kernel
  -- a new row
  have grow : ∀ (p : Option Addr) (cap : Nat), hdr = .slice p hs.length cap → cap < hs.length + 1 → (∀ w' : World, w'.heap = w.heap → (Builtin.firstCells 1 hs.length (.slice p hs.length cap)).run Tryd.prog w' = .ok hs.toArray w') →
      ∃ hdr' w1 bA, (Builtin.append_ #[31, 31] ty #[hdr, .slice (some ⟨s, 0, none⟩) 1 1]).run Tryd.prog w = .ok hdr' w1 ∧ (∀ k, k < w.heap.size → k ≠ bA → w1.heap[k]? = w.heap[k]?) ∧ bA ∉ bs ∧ bA ≠ b7 ∧ lo ≤ bA ∧ bA ≠ b ∧
      WSame w w1 ∧ w.heap.size ≤ w1.heap.size ∧ ArrR lo w1 b7 hdr' (hs ++ [v]) (bs ++ [b]) := by
    intro p cap hhd hcap hL
    have hbs : w.heap.size ∉ bs := fun hm => by
      obtain ⟨j, hj, e⟩ := List.getElem_of_mem hm
      obtain ⟨_, cs, _, _, _, _, _, _, p4, _⟩ := h.arc j (by have := h.lb; omega)
      have := lt_of p4
      rw [List.getD_eq_getElem?_getD, List.getElem?_eq_getElem hj] at this
      simp only [Option.getD_some] at this
      omega
    have hb7 : w.heap.size ≠ b7 := fun e => by
      obtain ⟨_, h7⟩ := h.h7
      have := lt_of h7; omega
    obtain ⟨cap', hc', hg⟩ := run_append_any (t1 := 31) (ty := ty) (p := p) (sLen := hs.length) (sCap := cap) (n := 1) (x := .slice (some ⟨s, 0, none⟩) 1 1) (L := hs) (M := [v]) hd und2 hti (show (Tryd.t44).zero = some (.slice none 0 0) from rfl) hnot hlen (fun w' hw' => by rw [hz1]; exact hfirst w' hw') (fun w' hw' => by rw [hz1]; exact hL w' hw') hcap (by omega) (by rw [hby]; omega)
    refine ⟨.slice (some ⟨w.heap.size, 0, none⟩) (hs.length + 1) cap', w.drew.alloc (.cells (hs.toArray ++ [v].toArray ++ Builtin.zeroCells (Value.slice none 0 0).cells (cap' - (hs.length + 1))) 44), w.heap.size, by rw [hhd]; exact hg, fun k hk hne => ?_, hbs, hb7, hlo, by omega, ⟨rfl, rfl, rfl⟩, ?_, ?_⟩
    · exact heap_alloc_old w.drew _ hk
    · exact Nat.le_of_lt (lt_of (heap_alloc_new w.drew _))
    · refine .inr ⟨w.heap.size, cap', _, _, (Builtin.zeroCells (Value.slice none 0 0).cells (cap' - (hs.length + 1))).toList, by rw [List.length_append]; rfl, hlo, hb7, ?_, heap_alloc_new w.drew _, by simp, by rw [List.length_append]; exact hc', ?_, by simp⟩
      · rw [List.mem_append, not_or]
        exact ⟨hbs, by simp; omega⟩
      · simp [zeroCells_len, Value.cells]; omega
  rcases h.arr with ⟨h1, e1⟩ | ⟨bA, cap, cs, et', R, e1, q2, q3, q4, q5, q6, q7, q8, q9⟩
  · refine grow none 0 (by rw [h1]; exact e1) (by omega) fun w' hw' => ?_
    rw [h1]
    rfl
  · by_cases hroom : hs.length + 1 ≤ cap
    · have hst := run_storeCells_at Tryd.prog bA hs.length et' [v] 0 cs w q5 (by show hs.length + 0 + 1 ≤ cs.size; omega) (fun u hu => by simp at hu; rw [hu]; exact hv)
      simp only [Nat.add_zero] at hst
      have hrun := run_append_in (t1 := 31) (ty := ty) (p := some ⟨bA, 0, none⟩) (sLen := hs.length) (sCap := cap) (n := 1) (x := .slice (some ⟨s, 0, none⟩) 1 1) (M := [v]) hd und2 hti hnot hlen (by rw [hz1]; exact hfirst w rfl) hroom (w' := w.setRow bA (setRange cs.toList hs.length [v]).toArray) (fun a ha => by
        cases ha
        rw [hz1, plain_add, Nat.mul_one, Nat.zero_add]
        exact hst) (fun e => by cases e)
      refine ⟨_, _, bA, by rw [e1]; exact hrun, fun k hk hne => setRow_other w bA k _ hne, q4, q3, q2, fun e => hbA bA cap _ e1 e.symm, ⟨rfl, rfl, rfl⟩, by rw [setRow_size]; exact Nat.le_refl _, ?_⟩
      have e2 : setRange cs.toList hs.length [v] = (hs ++ [v]) ++ R.drop 1 := by
        rw [q6]
        unfold setRange
        rw [List.take_left, List.drop_append, List.drop_eq_nil_of_le (by simp)]
        simp
      refine .inr ⟨bA, cap, _, et', R.drop 1, by rw [List.length_append]; rfl, q2, q3, ?_, setRow_heap w bA _ _ et' (0, 0) q5, by rw [← e2], by rw [List.length_append]; exact hroom, ?_, by simp⟩
      · rw [List.mem_append, not_or]
        exact ⟨q4, by simpa using fun e => hbA bA cap _ e1 e.symm⟩
      · have : (setRange cs.toList hs.length [v]).toArray.size = cs.size := setRange_size (by simp; omega)
        omega
    · refine grow (some ⟨bA, 0, none⟩) cap e1 (by omega) fun w' hw' => ?_
      have := run_loadCells_list (P := Tryd.prog) w' ⟨bA, 0, none⟩ hs (fun j u hj => by
        rw [plain_add, heap_cell hw', delK.cells_heap _ q5, q6, Nat.zero_add, List.getElem?_append_left (get_lt hj)]
        exact hj)
      simp only [Builtin.firstCells, Nat.mul_one]; exact this
end thin
end Go.Proofs.YtcfalmdfohphoaaDoor
/-
  Directions: the walks.
-/
namespace Go.Proofs.YtcfalmdfohphoaaDoor
open Go Go.Ab
set_option maxRecDepth 100000
def orI : List Int → Int
  | [] => 0
  | x :: l => if x ≠ 0 then x else orI l
theorem or_any (G : List (Nat × Value)) (xs : List Int) (hl : xs.length ≤ 1000000000000) (K : AV → List AO → Prop) (hK : K (.fz int (orI xs)) []) :
    ACall Tryd.prog G 65 [.fz (.list int) xs] [] K := by
  refine acall_mk (E := envAt G 18 0) (envOk _ _ _) Tryd.func65 rfl rfl rfl rfl rfl ?_
  (repeat' (first | exact trivial | refine And.intro ?_ ?_ | (intro hb; try simp at hb) | omega | exact rfl | refine aRegion_auto (by decide +kernel) ?_ | fail))
  refine ⟨Nat, fun k => ⟨[(3, .fz int 0), (6, .fz (.list int) xs), (7, .fz int xs.length), (8, .fz int k)], []⟩, fun k => k ≤ xs.length ∧ orI xs = orI (xs.drop k), fun k => xs.length - k, 0, ⟨Nat.zero_le _, rfl⟩, Ent.sub rfl ?_, ?_⟩
  · (repeat' (first | exact trivial | exact rfl | refine And.intro ?_ ?_))
  intro k ⟨hk, hp⟩
  (repeat' (first | exact trivial | refine And.intro ?_ ?_ | (intro hb; try simp at hb) | omega | exact rfl | refine aRegion_auto (by decide +kernel) ?_ | fail))
  · refine ⟨_, _, REnt.refl _ _ _, ?_⟩
    have hd : xs.drop k = xs[k]'(by omega) :: xs.drop (k + 1) := List.drop_eq_getElem_cons (by omega)
    have e : xs.getD (Int.toNat (k : Int)) int.dft = xs[k]'(by omega) := by simp [List.getD, show k < xs.length by omega]
    rw [hp, hd] at hK
    unfold orI at hK
    have hb : ¬ (xs.getD (Int.toNat (k : Int)) int.dft = 0) := hb
    rw [e] at hb
    rw [if_pos hb] at hK
    rw [e]; exact hK
  · refine ⟨k + 1, ⟨by omega, ?_⟩, by show _ - _ < _ - _; omega, Ent.sub rfl ?_⟩
    · have hd : xs.drop k = xs[k]'(by omega) :: xs.drop (k + 1) := List.drop_eq_getElem_cons (by omega)
      have e : xs.getD (Int.toNat (k : Int)) int.dft = xs[k]'(by omega) := by simp [List.getD, show k < xs.length by omega]
      have hb : xs.getD (Int.toNat (k : Int)) int.dft = 0 := hb
      rw [e] at hb
      rw [hp, hd, orI, if_neg (by omega)]
    · (repeat' (first | exact trivial | exact rfl | refine And.intro ?_ ?_))
  · refine ⟨_, _, REnt.refl _ _ _, ?_⟩
    have hk : k = xs.length := by omega
    subst hk
    rw [hp, List.drop_length] at hK
    exact hK
/-- a difference of two places -/
def dfB (d : Int × Int) : Prop := (-33554432 ≤ d.1 ∧ d.1 ≤ 33554432) ∧ (-33554432 ≤ d.2 ∧ d.2 ≤ 33554432)
theorem dfB_sub {p q : Int × Int} (hp : plB p = true) (hq : plB q = true) : dfB (Shp.sub p q) := by
  rw [plB_iff] at hp hq
  unfold dfB Shp.sub
  simp only
  omega
theorem half_any (G : List (Nat × Value)) (d : Int × Int) (K : AV → List AO → Prop) (hK : K (.fz int (Shp.hf d)) []) : ACall Tryd.prog G 66 [.fz SpT d] [] K := by
  unfold Shp.hf at hK
  by_cases c : 0 < d.2 ∨ (d.2 = 0 ∧ 0 < d.1)
  · rw [if_pos c] at hK
    refine acall_mk (E := envAt G 16 0) (envOk _ _ _) Tryd.func66 rfl rfl rfl rfl rfl ?_
    (repeat' (first | exact trivial | exact fun h => h | refine And.intro ?_ ?_ | (intro hb; try simp at hb) | omega | exact rfl | exact Nat.le_refl _ | (show _ + 1 ≤ 4294967296; omega) | (show _ + 1 ≤ 5864062014634; omega) | (dsimp only; omega) | (show (_ : Int) ≤ (_ : Int); omega) | (show _ < List.length _; simp only [List.length_set, List.length_append, List.length_take]; omega) | (show wantB _ _ = true; simp <;> omega) | (show (_ : Bool) = _; simp_all; done) | (exfalso; omega) | refine aRegion_auto (by decide +kernel) ?_ | refine ⟨_, _, REnt.drop ⟨rfl, rfl⟩, ?_⟩ | fail))
    exact hK
  · rw [if_neg c] at hK
    refine acall_mk (E := envAt G 16 0) (envOk _ _ _) Tryd.func66 rfl rfl rfl rfl rfl ?_
    (repeat' (first | exact trivial | exact fun h => h | refine And.intro ?_ ?_ | (intro hb; try simp at hb) | omega | exact rfl | exact Nat.le_refl _ | (show _ + 1 ≤ 4294967296; omega) | (show _ + 1 ≤ 5864062014634; omega) | (dsimp only; omega) | (show (_ : Int) ≤ (_ : Int); omega) | (show _ < List.length _; simp only [List.length_set, List.length_append, List.length_take]; omega) | (show wantB _ _ = true; simp <;> omega) | (show (_ : Bool) = _; simp_all; done) | (exfalso; omega) | refine aRegion_auto (by decide +kernel) ?_ | refine ⟨_, _, REnt.drop ⟨rfl, rfl⟩, ?_⟩ | fail))
    exact hK
theorem turned_any (G : List (Nat × Value)) (d e : Int × Int) (hd : dfB d) (he : dfB e) (K : AV → List AO → Prop) (hK : K (.fz int (Shp.trn d e)) []) : ACall Tryd.prog G 50 [.fz SpT d, .fz SpT e] [] K := by
  unfold dfB at hd he
  have m1 := mulb (a := e.1) (b := d.2) (by omega) (by omega)
  have m2 := mulb (a := e.2) (b := d.1) (by omega) (by omega)
  have h1 : 0 ≤ Shp.hf d ∧ Shp.hf d ≤ 1 := by unfold Shp.hf; split <;> omega
  have h2 : 0 ≤ Shp.hf e ∧ Shp.hf e ≤ 1 := by unfold Shp.hf; split <;> omega
  have ec : e.1 * d.2 - e.2 * d.1 = Shp.cross e d := by unfold Shp.cross; rw [Int.mul_comm e.2]
  have eo : orI [Shp.hf d - Shp.hf e, Shp.sgZ (Shp.cross e d)] = Shp.trn d e := by
    unfold Shp.trn orI orI orI
    by_cases h : Shp.hf d - Shp.hf e = 0
    · rw [if_neg (by omega), if_pos h]
      split <;> omega
    · rw [if_pos h, if_neg h]
  refine acall_mk (E := envAt G 24 0) (envOk _ _ _) Tryd.func50 rfl rfl rfl rfl rfl ?_
  (repeat' (first | exact trivial | refine And.intro ?_ ?_ | (intro hb; try simp at hb) | omega | exact rfl | refine aRegion_auto (by decide +kernel) ?_ | fail))
  apply exEff
  · refine acall_conv [.dat SpT] _ _ _ rfl trivial (acall_frame0 rfl (half_any _ d _ ?_))
    exact ⟨rfl, rfl⟩
  (repeat' (first | exact trivial | refine And.intro ?_ ?_ | (intro hb; try simp at hb) | omega | exact rfl | refine aRegion_auto (by decide +kernel) ?_ | fail))
  apply exEff
  · refine acall_conv [.dat SpT] _ _ _ rfl trivial (acall_frame0 rfl (half_any _ e _ ?_))
    exact ⟨rfl, rfl⟩
  (repeat' (first | exact trivial | refine And.intro ?_ ?_ | (intro hb; try simp at hb) | omega | exact rfl | refine aRegion_auto (by decide +kernel) ?_ | fail))
  apply exEff
  · refine acall_frame0 rfl (sign_any _ (e.1 * d.2 - e.2 * d.1) _ ?_)
    rw [ec]
    exact ⟨rfl, rfl⟩
  (repeat' (first | exact trivial | refine And.intro ?_ ?_ | (intro hb; try simp at hb) | omega | exact rfl | refine aRegion_auto (by decide +kernel) ?_ | fail))
  (apply exEff; focus (repeat' (first | exact ⟨rfl, rfl⟩ | exact trivial | refine And.intro ?_ ?_ | omega | exact Nat.le_refl _ | (show _ + 1 ≤ 4294967296; omega) | (show _ + 1 ≤ 5864062014634; omega))))
  (repeat' (first | exact trivial | refine And.intro ?_ ?_ | (intro hb; try simp at hb) | omega | exact rfl | refine aRegion_auto (by decide +kernel) ?_ | fail))
  apply exEff
  · refine acall_lend [.dat (.list int)] _ _ _ rfl ?_ rfl ?_
    · (repeat' (first | exact trivial | refine And.intro ?_ ?_ | (show _ ≤ _; omega) | (show _ ≤ _; simp; done)))
    refine acall_arg (or_any G [Shp.hf d - Shp.hf e, Shp.sgZ (Shp.cross e d)] (by simp) _ ?_) rfl
    rw [eo]
    refine And.intro rfl ?_
    exact ⟨rfl, rfl⟩
  (repeat' (first | exact trivial | refine And.intro ?_ ?_ | (intro hb; try simp at hb) | omega | exact rfl | refine aRegion_auto (by decide +kernel) ?_ | fail))
  refine ⟨_, _, REnt.drop ⟨rfl, rfl⟩, ?_⟩
  exact hK
theorem clockwise_any (G : List (Nat × Value)) (d e : Int × Int) (hd : dfB d) (he : dfB e) (K : AV → List AO → Prop) (hK : K (.fz int (Shp.clk d e)) []) : ACall Tryd.prog G 74 [.fz SpT d, .fz SpT e] [] K := by
  unfold dfB at hd he
  have m1 := mulb (a := d.1) (b := e.2) (by omega) (by omega)
  have m2 := mulb (a := d.2) (b := e.1) (by omega) (by omega)
  have m3 := mulb (a := d.1) (b := e.1) (by omega) (by omega)
  have m4 := mulb (a := d.2) (b := e.2) (by omega) (by omega)
  have ec : d.1 * e.2 - d.2 * e.1 = Shp.cross d e := by unfold Shp.cross; rw [Int.mul_comm e.1]
  have ed : d.1 * e.1 + d.2 * e.2 = Shp.dot d e := rfl
  unfold Shp.clk at hK
  rw [← ec, ← ed] at hK
  by_cases c1 : d.1 * e.2 - d.2 * e.1 < 0
  · rw [if_pos c1] at hK
    refine acall_mk (E := envAt G 35 0) (envOk _ _ _) Tryd.func74 rfl rfl rfl rfl rfl ?_
    (repeat' (first | exact trivial | refine And.intro ?_ ?_ | (intro hb; try simp at hb) | omega | exact rfl | refine aRegion_auto (by decide +kernel) ?_ | refine ⟨_, _, REnt.drop ⟨rfl, rfl⟩, ?_⟩ | fail))
    exact hK
  · rw [if_neg c1] at hK
    by_cases c2 : 0 < d.1 * e.2 - d.2 * e.1
    · rw [if_pos c2] at hK
      refine acall_mk (E := envAt G 35 0) (envOk _ _ _) Tryd.func74 rfl rfl rfl rfl rfl ?_
      (repeat' (first | exact trivial | refine And.intro ?_ ?_ | (intro hb; try simp at hb) | omega | exact rfl | refine aRegion_auto (by decide +kernel) ?_ | refine ⟨_, _, REnt.drop ⟨rfl, rfl⟩, ?_⟩ | fail))
      exact hK
    · rw [if_neg c2] at hK
      by_cases c3 : 0 < d.1 * e.1 + d.2 * e.2
      · rw [if_pos c3] at hK
        refine acall_mk (E := envAt G 35 0) (envOk _ _ _) Tryd.func74 rfl rfl rfl rfl rfl ?_
        (repeat' (first | exact trivial | refine And.intro ?_ ?_ | (intro hb; try simp at hb) | omega | exact rfl | refine aRegion_auto (by decide +kernel) ?_ | refine ⟨_, _, REnt.drop ⟨rfl, rfl⟩, ?_⟩ | fail))
        exact hK
      · rw [if_neg c3] at hK
        refine acall_mk (E := envAt G 35 0) (envOk _ _ _) Tryd.func74 rfl rfl rfl rfl rfl ?_
        (repeat' (first | exact trivial | refine And.intro ?_ ?_ | (intro hb; try simp at hb) | omega | exact rfl | refine aRegion_auto (by decide +kernel) ?_ | refine ⟨_, _, REnt.drop ⟨rfl, rfl⟩, ?_⟩ | fail))
        exact hK
theorem sooner_any (G : List (Nat × Value)) (f a b : Int × Int) (hf : dfB f) (ha : dfB a) (hb : dfB b) (K : AV → List AO → Prop) (hK : K (.fz .bool (Shp.soon f a b)) []) : ACall Tryd.prog G 59 [.fz SpT f, .fz SpT a, .fz SpT b] [] K := by
  have hf' := hf
  have ha' := ha
  have hb' := hb
  unfold dfB at hf' ha' hb'
  have m1 := mulb (a := a.1) (b := b.2) (by omega) (by omega)
  have m2 := mulb (a := a.2) (b := b.1) (by omega) (by omega)
  have ec : a.1 * b.2 - a.2 * b.1 = Shp.cross a b := by unfold Shp.cross; rw [Int.mul_comm b.1]
  unfold Shp.soon at hK
  rw [← ec] at hK
  refine acall_mk (E := envAt G 33 0) (envOk _ _ _) Tryd.func59 rfl rfl rfl rfl rfl ?_
  (repeat' (first | exact trivial | refine And.intro ?_ ?_ | (intro hb; try simp at hb) | omega | exact rfl | refine aRegion_auto (by decide +kernel) ?_ | fail))
  refine acall_conv [.dat SpT, .dat SpT] _ _ _ rfl trivial (acall_frame0 rfl (clockwise_any _ f a hf ha _ ?_))
  (repeat' (first | exact trivial | refine And.intro ?_ ?_ | (intro hb; try simp at hb) | omega | exact rfl | refine aRegion_auto (by decide +kernel) ?_ | fail))
  refine acall_conv [.dat SpT, .dat SpT] _ _ _ rfl trivial (acall_frame0 rfl (clockwise_any _ f b hf hb _ ?_))
  by_cases c : Shp.clk f a = Shp.clk f b
  · rw [if_pos c] at hK
    (repeat' (first | exact trivial | refine And.intro ?_ ?_ | (intro hb; try simp at hb) | omega | exact rfl | refine aRegion_auto (by decide +kernel) ?_ | refine ⟨_, _, REnt.drop ⟨rfl, rfl⟩, ?_⟩ | fail))
    exact hK
  · rw [if_neg c] at hK
    (repeat' (first | exact trivial | refine And.intro ?_ ?_ | (intro hb; try simp at hb) | omega | exact rfl | refine aRegion_auto (by decide +kernel) ?_ | refine ⟨_, _, REnt.drop ⟨rfl, rfl⟩, ?_⟩ | fail))
    exact hK
end Go.Proofs.YtcfalmdfohphoaaDoor
