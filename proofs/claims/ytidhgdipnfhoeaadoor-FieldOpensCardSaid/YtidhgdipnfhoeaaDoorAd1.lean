/-
  Code: what must be so ahead of it.
-/
import Derived.Test.YtidhgdipnfhoeaaDoorAc91
namespace Go.Ab
open Go
structure Env where
  P : Program
  D : Tab
  G : List (Nat × Value)
  N : Nat
  n0 : Nat
  cuts : List Nat
structure EnvOk (E : Env) : Prop where
  tab : TabOk E.P E.D
  mix : E.P.follows .mixedOrders = true
/-- one state may be seen as another one -/
def Ent (n0 : Nat) (σ σ' : St) : Prop := ∀ c : Cx, HR c → c.A = σ.A → n0 ≤ c.A.length → ∀ tmps, TR c σ.T tmps → ∃ c' : Cx, c'.w = c.w ∧ ExtN n0 c c' ∧ HR c' ∧ c'.A = σ'.A ∧ TR c' σ'.T tmps
theorem ExtN.refl {n : Nat} {c : Cx} (h : n ≤ c.A.length) : ExtN n c c := (Ext.refl c).toN' h
theorem Ent.refl (n0 : Nat) (σ : St) : Ent n0 σ σ := fun c H hA hn _ h => ⟨c, rfl, ExtN.refl hn, H, hA, h⟩
theorem Ent.trans {n0 : Nat} {σ σ' σ'' : St} (h : Ent n0 σ σ') (h' : Ent n0 σ' σ'') : Ent n0 σ σ'' := fun c H hA hn tmps ht => by
  obtain ⟨c1, k1, k2, k3, k4, k5⟩ := h c H hA hn tmps ht
  obtain ⟨c2, j1, j2, j3, j4, j5⟩ := h' c1 k3 k4 k2.le.len tmps k5
  exact ⟨c2, j1.trans k1, k2.trans j2, j3, j4, j5⟩
def subT (T : List (Nat × AV)) : List (Nat × AV) → Prop
  | [] => True
  | [(d, v)] => lk T d = v
  | (d, v) :: T' => lk T d = v ∧ subT T T'
theorem subT_lk {T : List (Nat × AV)} {c : Cx} {tmps : Array Value} (h : TR c T tmps) : ∀ T' : List (Nat × AV), subT T T' → TR c T' tmps
  | [], _, n => by show Rel c .unk _; exact rel_unk
  | [(d, v)], hs, n => by
    unfold lk
    by_cases hd : d = n
    · subst hd; rw [if_pos rfl]; have : lk T d = v := hs; rw [← this]; exact h d
    · rw [if_neg hd]; exact rel_unk
  | (d, v) :: x :: T', hs, n => by
    unfold lk
    by_cases hd : d = n
    · subst hd; rw [if_pos rfl]; have : lk T d = v := hs.1; rw [← this]; exact h d
    · rw [if_neg hd]; exact subT_lk h (x :: T') hs.2 n
theorem Ent.sub {n0 : Nat} {T T' : List (Nat × AV)} {A A' : List AO} (hA : A = A') (hT : subT T T') : Ent n0 ⟨T, A⟩ ⟨T', A'⟩ := fun c H h hn _ ht => by
  subst hA
  exact ⟨c, rfl, ExtN.refl hn, H, h, subT_lk ht T' hT⟩
/-- a nil slice as a slice of one's own -/
theorem Ent.nil {n0 : Nat} {T : List (Nat × AV)} {A : List AO} (d : Nat) (e : Ty) (h : lk T d = .nilSl) : Ent n0 ⟨T, A⟩ ⟨(d, .ref A.length 0 0) :: T, A ++ [.row e []]⟩ := fun c H hA hn tmps ht => by
  have hA : c.A = A := hA
  subst hA
  obtain ⟨k1, k2, k3⟩ := nilRow_sound H e
  refine ⟨c.nilRow e, rfl, k1.toN' hn, k2, rfl, fun n => ?_⟩
  show Rel _ (lk ((d, _) :: T) n) _
  unfold lk
  by_cases hd : d = n
  · subst hd
    rw [if_pos rfl]
    have := ht d
    rw [h] at this
    unfold Rel at this
    rw [this]; exact k3
  · rw [if_neg hd]; exact (ht n).ext k1
/-! ### code -/
def thenQ (next : St → Prop) (Q : Exit → St → Prop) : Exit → St → Prop
  | .normal, σ => next σ
  | e, σ => Q e σ
def blkQ (id : Nat) (Q : Exit → St → Prop) : Exit → St → Prop
  | .exit i, σ => match Nat.beq i id with
    | true => Q .normal σ
    | false => Q (.exit i) σ
  | e, σ => Q e σ
def ALoop (n0 : Nat) (body : (Exit → St → Prop) → St → Prop) (Q : Exit → St → Prop) (σ : St) : Prop :=
  ∃ (ι : Type) (S : ι → St) (I : ι → Prop) (μ : ι → Nat) (i0 : ι), I i0 ∧ Ent n0 σ (S i0) ∧ ∀ i, I i → body (thenQ (fun σ' => ∃ j, I j ∧ μ j < μ i ∧ Ent n0 σ' (S j)) Q) (S i)
def aReg (P : Program) (D : Tab) (G : List (Nat × Value)) (N : Nat) (L : List Oper) (draw : Bool) (T : List (Nat × AV)) (A : List AO) (Q : List (Nat × AV) → List AO → Prop) : Prop := match draw with
  | false => aOps P D G N L L T A Q
  | true => aRegion P D G N L T A Q
/-- is the state to be seen otherwise ahead of this region? -/
def cutB (q : Nat) : List Nat → Bool
  | [] => false
  | x :: l => match Nat.beq x q with
    | true => true
    | false => cutB q l
def awp (E : Env) : Code → (Exit → St → Prop) → St → Prop
  | .skip, Q, σ => Q .normal σ
  | .label _, Q, σ => Q .normal σ
  | .region id ⟨L⟩ draw, Q, ⟨T, A⟩ => match E with
    | ⟨P, D, G, N, n0, cuts⟩ => match cutB id cuts with
      | false => aReg P D G N L draw T A fun T A => Q .normal ⟨T, A⟩
      | true => ∃ T' A', Ent n0 ⟨T, A⟩ ⟨T', A'⟩ ∧ aReg P D G N L draw T' A' fun T A => Q .normal ⟨T, A⟩
  | .seq x y, Q, σ => awp E x (thenQ (awp E y Q) Q) σ
  | .cond c x y, Q, σ => match ev σ.T c with
    | .fz .bool b => (b = true → awp E x Q σ) ∧ (b = false → awp E y Q σ)
    | _ => False
  | .block id c, Q, σ => awp E c (blkQ id Q) σ
  | .loop c, Q, σ => ALoop E.n0 (awp E c) Q σ
  | .exit id, Q, σ => Q (.exit id) σ
  | .goto l, Q, σ => Q (.goto l) σ
  | .ret, Q, σ => Q .ret σ
  | _, _, _ => False
def Post (E : Env) (c0 : Cx) (Q : Exit → St → Prop) : Exit → Act → World → Prop := fun e a w => ∃ σ, Q e σ ∧ Sim E.n0 c0 E.N σ a w
theorem wp_region_list {P : Program} {id : Nat} {ops : Array Oper} {Q : Exit → Act → World → Prop} {a : Act} {w : World} (h : wpOps P ops.toList.toArray Q (List.range' 0 ops.toList.length) a w) : (Code.region id ops false).wp P Q a w := by
  refine wp_region ?_
  rw [List.range_eq_range']
  simpa using h
theorem sim_heap {E : Env} {c0 : Cx} {σ : St} {a : Act} {w w' : World} (h : Sim E.n0 c0 E.N σ a w) (hw : w'.heap = w.heap) (hs' : WSame w w') : Sim E.n0 c0 E.N σ a w' := by
  obtain ⟨c, rfl, h2, h3, h4, h5, h6, h7⟩ := h
  obtain ⟨k1, k2⟩ := ext_draw h3 w' hw hs'
  exact ⟨{ c with w := w' }, rfl, h2, k2, h4.ext k1, h5.step k1, h6, h7⟩
theorem awp_sound {E : Env} (ok : EnvOk E) (c0 : Cx) (hG : c0.G = E.G) : ∀ (c : Code) (Q : Exit → St → Prop) (σ : St) (a : Act) (w : World), awp E c Q σ → Sim E.n0 c0 E.N σ a w → c.wp E.P (Post E c0 Q) a w := by
  intro c
  induction c with
  | skip => intro Q σ a w h hs; exact wp_skip ⟨σ, h, hs⟩
  | label l => intro Q σ a w h hs; exact wp_label ⟨σ, h, hs⟩
  | exit id => intro Q σ a w h hs; exact wp_exit ⟨σ, h, hs⟩
  | goto l => intro Q σ a w h hs; exact wp_goto ⟨σ, h, hs⟩
  | ret => intro Q σ a w h hs; exact wp_ret ⟨σ, h, hs⟩
  | refuse s => intro Q σ a w h hs; exact h.elim
  | scope c _ => intro Q σ a w h hs; exact h.elim
  | rangeFunc f ps x y _ _ => intro Q σ a w h hs; exact h.elim
  | region id ops draw =>
    intro Q σ a w h hs
    obtain ⟨L⟩ := ops
    obtain ⟨P, D, G, N, n0, cuts⟩ := E
    have main : ∀ (T : List (Nat × AV)) (A : List AO), aReg P D G N L draw T A (fun T A => Q .normal ⟨T, A⟩) → Sim n0 c0 N ⟨T, A⟩ a w → (Code.region id ⟨L⟩ draw).wp P (Post ⟨P, D, G, N, n0, cuts⟩ c0 Q) a w := by
      intro T A h hs
      cases draw with
      | false =>
        obtain ⟨c, rfl, hA, H, hT, hE, hd, hN⟩ := hs
        refine wp_region_list ?_
        have h : aOps P D G N L L T A (fun T A => Q .normal ⟨T, A⟩) := h
        have hA : c.A = A := hA
        have hG : c0.G = G := hG
        rw [← hA, ← hG] at h
        exact aOps_sound ok.tab L 0 T c a (fun j => by simp) H hT hE hd hN h fun c' a' T' H' hT' hE' hd' hN' hQ => ⟨⟨T', c'.A⟩, hQ, c', rfl, rfl, H', hT', hE', hd', hN'⟩
      | true =>
        refine wp_region_any ok.mix ?_
        obtain ⟨c, hw, hA, H, hT, hE, hd, hN⟩ := sim_heap (E := ⟨P, D, G, N, n0, cuts⟩) (w' := { w with drawn := w.drawn + 1 }) hs rfl ⟨rfl, rfl, rfl⟩
        rw [← hw]
        have h : aRegion P D G N L T A (fun T A => Q .normal ⟨T, A⟩) := h
        have hA : c.A = A := hA
        have hG : c0.G = G := hG
        rw [← hA, ← hG] at h
        have := aRegion_sound (Qc := Post ⟨P, D, G, N, n0, cuts⟩ c0 Q) ok.tab H hT hE hd hN h fun c' a' T' H' hT' hE' hd' hN' hQ => ⟨⟨T', c'.A⟩, hQ, c', rfl, rfl, H', hT', hE', hd', hN'⟩
        simpa using this
    obtain ⟨T, A⟩ := σ
    unfold awp at h
    simp only at h
    split at h
    · exact main T A h hs
    · obtain ⟨T', A', he, h⟩ := h
      refine main T' A' h ?_
      obtain ⟨cx, hw, hA, H, hT, hE, hd, hN⟩ := hs
      obtain ⟨c', k1, k2, k3, k4, k5⟩ := he cx H hA hE.le.len _ hT
      exact ⟨c', k1.trans hw, k4, k3, k5, hE.trans k2, hd, hN⟩
  | seq x y ihx ihy =>
    intro Q σ a w h hs
    refine wp_seq (wp_mono (ihx _ σ a w h hs) fun e a' w' ⟨σ', hq, hs'⟩ => ?_)
    cases e with
    | normal => exact ihy Q σ' a' w' hq hs'
    | _ => exact ⟨σ', hq, hs'⟩
  | cond c x y ihx ihy =>
    intro Q σ a w h hs
    unfold awp at h
    split at h
    · rename_i b hb
      obtain ⟨cx, rfl, hA, H, hT, hE, hd, hN⟩ := hs
      have hv := hT.ev (a := a) c
      rw [hb] at hv
      refine wp_cond_split (rel_bool.1 hv) (fun ht => ihx Q σ a _ (h.1 ht) ⟨cx, rfl, hA, H, hT, hE, hd, hN⟩) (fun hf => ihy Q σ a _ (h.2 hf) ⟨cx, rfl, hA, H, hT, hE, hd, hN⟩)
    · exact h.elim
  | block id c ih =>
    intro Q σ a w h hs
    refine wp_block (wp_mono (ih _ σ a w h hs) fun e a' w' ⟨σ', hq, hs'⟩ => ?_)
    cases e with
    | exit i =>
      show if i = id then _ else _
      have hq : (match Nat.beq i id with | true => Q .normal σ' | false => Q (.exit i) σ') := hq
      by_cases hi : i = id
      · rw [if_pos hi]
        have : Nat.beq i id = true := by rw [hi]; simp
        rw [this] at hq; exact ⟨σ', hq, hs'⟩
      · rw [if_neg hi]
        have : Nat.beq i id = false := by
          cases hb : Nat.beq i id with
          | false => rfl
          | true => exact absurd (beq_eq hb) hi
        rw [this] at hq; exact ⟨σ', hq, hs'⟩
    | _ => exact ⟨σ', hq, hs'⟩
  | loop c ih =>
    intro Q σ a w h hs
    obtain ⟨ι, S, I, μ, i0, h0, he, hround⟩ := h
    have ent : ∀ {σ σ' : St} {a : Act} {w : World}, Ent E.n0 σ σ' → Sim E.n0 c0 E.N σ a w → Sim E.n0 c0 E.N σ' a w := by
      intro σ σ' a w he ⟨cx, hw, hA, H, hT, hE, hd, hN⟩
      obtain ⟨c', k1, k2, k3, k4, k5⟩ := he cx H hA hE.le.len _ hT
      exact ⟨c', k1.trans hw, k4, k3, k5, hE.trans k2, hd, hN⟩
    -- the measure of a state: the least of those that it may be
    let M : Act → World → Nat := fun a w => Classical.epsilon fun n => (∃ i, I i ∧ Sim E.n0 c0 E.N (S i) a w ∧ μ i = n) ∧ ∀ i, I i → Sim E.n0 c0 E.N (S i) a w → n ≤ μ i
    have hM : ∀ a w, (∃ i, I i ∧ Sim E.n0 c0 E.N (S i) a w) → (∃ i, I i ∧ Sim E.n0 c0 E.N (S i) a w ∧ μ i = M a w) ∧ ∀ i, I i → Sim E.n0 c0 E.N (S i) a w → M a w ≤ μ i := by
      intro a w ⟨i, hi, hsi⟩
      have : ∃ n, (∃ i, I i ∧ Sim E.n0 c0 E.N (S i) a w ∧ μ i = n) ∧ ∀ i, I i → Sim E.n0 c0 E.N (S i) a w → n ≤ μ i := by
        obtain ⟨m, ⟨j, j1, j2, j3⟩, hm⟩ := least_of (p := fun n => ∃ i, I i ∧ Sim E.n0 c0 E.N (S i) a w ∧ μ i = n) (μ i) ⟨i, hi, hsi, rfl⟩
        refine ⟨m, ⟨j, j1, j2, j3⟩, fun i' hi' hs' => ?_⟩
        rcases Nat.lt_or_ge (μ i') m with h | h
        · exact absurd ⟨i', hi', hs', rfl⟩ (hm _ h)
        · exact h
      exact Classical.epsilon_spec this
    refine wp_loop (fun a w => ∃ i, I i ∧ Sim E.n0 c0 E.N (S i) a w) M ⟨i0, h0, ent he hs⟩ fun a w hI => ?_
    obtain ⟨⟨i, hi, hsi, hμ⟩, _⟩ := hM a w hI
    refine wp_mono (ih _ (S i) a w (hround i hi) hsi) fun e a' w' ⟨σ', hq, hs'⟩ => ?_
    cases e with
    | normal =>
      obtain ⟨j, hj, hlt, hej⟩ := hq
      have hsj := ent hej hs'
      refine ⟨⟨j, hj, hsj⟩, ?_⟩
      have := (hM a' w' ⟨j, hj, hsj⟩).2 j hj hsj
      omega
    | _ => exact ⟨σ', hq, hs'⟩
end Go.Ab
