/-
  A call whose function knows of few objects, in a place that knows of more.
-/
import Derived.Test.YtidhgdipnfhoeaaDoorAd2
namespace Go.Ab
open Go
/-! ### forward -/
structure Fw (f : Nat → Nat) (c c2 : Cx) : Prop where
  I : ∀ b, c.I b → c2.I b
  w : c2.w = c.w
  tok : ∀ (t : Nat) o, c.A[t]? = some o → c2.A[f t]? = some (mapO f o) ∧ (o.live = true → c2.ρ (f t) = c.ρ t)
section
variable {f : Nat → Nat} {c c2 : Cx}
theorem fw_fz (F : Fw f c c2) {t : Ty} {x : t.den} {vs : List Value} (h : FzC c.I c.w t x vs) : FzC c2.I c2.w t x vs := h.mono fun b hb _ => ⟨F.I b hb, by rw [F.w]⟩
mutual
theorem fw_rel (F : Fw f c c2) : ∀ (a : AV) (v : Value), Rel c a v → Rel c2 (a.map f) v
  | .fz t x, v, h => by
    unfold AV.map; unfold Rel at *
    obtain ⟨cs, h1, h2⟩ := h
    exact ⟨cs, fw_fz F h1, h2⟩
  | .fptr t x, v, h => by
    unfold AV.map; unfold Rel at *
    obtain ⟨b, off, cs, h1, h2, h3, h4, h5⟩ := h
    exact ⟨b, off, cs, h1, F.I b h2, by rw [F.w]; exact h3, fw_fz F h4, by rw [F.w]; exact h5⟩
  | .ref tok off len, v, h => by
    unfold AV.map; unfold Rel at *
    cases ho : c.A[tok]? with
    | none => rw [ho] at h; exact h.elim
    | some o =>
      obtain ⟨k1, k2⟩ := F.tok tok o ho
      rw [ho] at h
      rw [k1]
      cases o with
      | dead => trivial
      | box vs => trivial
      | row e xs =>
        have k2 := k2 rfl
        simp only [mapO] at h ⊢
        rw [k2, F.w]; exact h
  | .nilSl, v, h => by unfold AV.map; unfold Rel at *; exact h
  | .ptr tok off, v, h => by
    unfold AV.map; unfold Rel at *
    cases ho : c.A[tok]? with
    | none => rw [ho] at h; exact h.elim
    | some o =>
      obtain ⟨k1, k2⟩ := F.tok tok o ho
      rw [ho] at h
      rw [k1]
      cases o with
      | dead => trivial
      | row e xs => exact h
      | box vs =>
        have k2 := k2 rfl
        simp only [mapO] at h ⊢
        rw [k2]; exact h
  | .elt tok i off, v, h => by
    unfold AV.map; unfold Rel at *
    cases ho : c.A[tok]? with
    | none => rw [ho] at h; exact h.elim
    | some o =>
      obtain ⟨k1, k2⟩ := F.tok tok o ho
      rw [ho] at h
      rw [k1]
      cases o with
      | dead => trivial
      | box vs => trivial
      | row e xs =>
        have k2 := k2 rfl
        simp only [mapO] at h ⊢
        rw [k2]; exact h
  | .glob g, v, h => by unfold AV.map; unfold Rel at *; exact h
  | .agg l, v, h => by
    unfold AV.map; unfold Rel at *
    obtain ⟨vs, h1, h2⟩ := h
    exact ⟨vs, h1, fw_relL F l vs h2⟩
  | .tup l, v, h => by
    unfold AV.map; unfold Rel at *
    obtain ⟨vs, h1, h2⟩ := h
    exact ⟨vs, h1, fw_relL F l vs h2⟩
  | .fn g l, v, h => by
    unfold AV.map; unfold Rel at *
    obtain ⟨vs, h1, h2⟩ := h
    exact ⟨vs, h1, fw_relL F l vs h2⟩
  | .ifc t a, v, h => by
    unfold AV.map; unfold Rel at *
    obtain ⟨u, h1, h2⟩ := h
    exact ⟨u, h1, fw_rel F a u h2⟩
  | .opt g a, v, h => by
    unfold AV.map; unfold Rel at *
    exact ⟨fun hg => fw_rel F a v (h.1 hg), h.2⟩
  | .unk, v, _ => by unfold AV.map; unfold Rel; trivial
theorem fw_relL (F : Fw f c c2) : ∀ (l : List AV) (vs : List Value), RelL c l vs → RelL c2 (mapL f l) vs
  | [], vs, h => by unfold mapL; exact h
  | a :: l, vs, h => by
    unfold mapL
    unfold RelL at *
    obtain ⟨v, r, e, h1, h2⟩ := h
    exact ⟨v, r, e, fw_rel F a v h1, fw_relL F l r h2⟩
end
theorem fw_obj (F : Fw f c c2) {r : Option Nat} {o : AO} (h : ObjOk c r o) : ObjOk c2 r (mapO f o) := by
  cases o with
  | dead => trivial
  | row e xs =>
    rcases h with h | ⟨b, cs, et, h1, h2, h3⟩
    · exact .inl h
    · refine .inr ⟨b, cs, et, h1, by rw [F.w]; exact h2, fun i hi => ?_⟩
      obtain ⟨ds, k1, k2⟩ := h3 i hi
      exact ⟨ds, fw_fz F k1, k2⟩
  | box vs =>
    obtain ⟨b, cs, et, h1, h2, h3⟩ := h
    exact ⟨b, cs, et, h1, by rw [F.w]; exact h2, fw_relL F vs cs h3⟩
end
/-! ### backward -/
structure Bw (π : Nat → Nat) (c c2 : Cx) : Prop where
  I : ∀ b, c.I b → c2.I b
  w : c2.w = c.w
  tok : ∀ (t : Nat) o, c2.A[t]? = some o → o.live = true → c.A[π t]? = some (mapO π o) ∧ c2.ρ t = c.ρ (π t)
section
variable {π : Nat → Nat} {c c2 : Cx}
theorem bw_fz (B : Bw π c c2) {t : Ty} {x : t.den} {vs : List Value} (h : FzC c.I c.w t x vs) : FzC c2.I c2.w t x vs := h.mono fun b hb _ => ⟨B.I b hb, by rw [B.w]⟩
mutual
theorem bw_rel (B : Bw π c c2) : ∀ (a : AV) (v : Value), a.okB c2.A.length = true → Rel c (a.map π) v → Rel c2 a v
  | .fz t x, v, _, h => by
    unfold AV.map at h; unfold Rel at *
    obtain ⟨cs, h1, h2⟩ := h
    exact ⟨cs, bw_fz B h1, h2⟩
  | .fptr t x, v, _, h => by
    unfold AV.map at h; unfold Rel at *
    obtain ⟨b, off, cs, h1, h2, h3, h4, h5⟩ := h
    exact ⟨b, off, cs, h1, B.I b h2, by rw [B.w]; exact h3, bw_fz B h4, by rw [B.w]; exact h5⟩
  | .ref tok off len, v, hok, h => by
    unfold AV.map at h; unfold AV.okB at hok; unfold Rel at *
    have hlt := blt_of hok
    have hA : c2.A[tok]? = some c2.A[tok] := List.getElem?_eq_getElem hlt
    rw [hA]
    cases ho : c2.A[tok] with
    | dead => trivial
    | box vs => trivial
    | row e xs =>
      rw [ho] at hA
      obtain ⟨k1, k2⟩ := B.tok tok _ hA rfl
      rw [k1] at h
      simp only [mapO] at h ⊢
      rw [k2, B.w]; exact h
  | .nilSl, v, _, h => by unfold AV.map at h; unfold Rel at *; exact h
  | .ptr tok off, v, hok, h => by
    unfold AV.map at h; unfold AV.okB at hok; unfold Rel at *
    have hlt := blt_of hok
    have hA : c2.A[tok]? = some c2.A[tok] := List.getElem?_eq_getElem hlt
    rw [hA]
    cases ho : c2.A[tok] with
    | dead => trivial
    | row e xs =>
      rw [ho] at hA
      obtain ⟨k1, k2⟩ := B.tok tok _ hA rfl
      rw [k1] at h
      exact h
    | box vs =>
      rw [ho] at hA
      obtain ⟨k1, k2⟩ := B.tok tok _ hA rfl
      rw [k1] at h
      simp only [mapO] at h ⊢
      rw [k2]; exact h
  | .elt tok i off, v, hok, h => by
    unfold AV.map at h; unfold AV.okB at hok; unfold Rel at *
    have hlt := blt_of hok
    have hA : c2.A[tok]? = some c2.A[tok] := List.getElem?_eq_getElem hlt
    rw [hA]
    cases ho : c2.A[tok] with
    | dead => trivial
    | box vs => trivial
    | row e xs =>
      rw [ho] at hA
      obtain ⟨k1, k2⟩ := B.tok tok _ hA rfl
      rw [k1] at h
      simp only [mapO] at h ⊢
      rw [k2]; exact h
  | .glob g, v, _, h => by unfold AV.map at h; unfold Rel at *; exact h
  | .agg l, v, hok, h => by
    unfold AV.map at h; unfold AV.okB at hok; unfold Rel at *
    obtain ⟨vs, h1, h2⟩ := h
    exact ⟨vs, h1, bw_relL B l vs hok h2⟩
  | .tup l, v, hok, h => by
    unfold AV.map at h; unfold AV.okB at hok; unfold Rel at *
    obtain ⟨vs, h1, h2⟩ := h
    exact ⟨vs, h1, bw_relL B l vs hok h2⟩
  | .fn g l, v, hok, h => by
    unfold AV.map at h; unfold AV.okB at hok; unfold Rel at *
    obtain ⟨vs, h1, h2⟩ := h
    exact ⟨vs, h1, bw_relL B l vs hok h2⟩
  | .ifc t a, v, hok, h => by
    unfold AV.map at h; unfold AV.okB at hok; unfold Rel at *
    obtain ⟨u, h1, h2⟩ := h
    exact ⟨u, h1, bw_rel B a u hok h2⟩
  | .opt g a, v, hok, h => by
    unfold AV.map at h; unfold AV.okB at hok; unfold Rel at *
    exact ⟨fun hg => bw_rel B a v hok (h.1 hg), h.2⟩
  | .unk, v, _, _ => by unfold Rel; trivial
theorem bw_relL (B : Bw π c c2) : ∀ (l : List AV) (vs : List Value), okLB c2.A.length l = true → RelL c (mapL π l) vs → RelL c2 l vs
  | [], vs, _, h => by unfold mapL at h; exact h
  | a :: l, vs, hok, h => by
    unfold okLB at hok
    simp only [Bool.and_eq_true] at hok
    unfold mapL at h
    unfold RelL at *
    obtain ⟨v, r, e, h1, h2⟩ := h
    exact ⟨v, r, e, bw_rel B a v hok.1 h1, bw_relL B l r hok.2 h2⟩
end
end
/-! ### the frame -/
/-- names within a call as names without -/
def frN (p : List Nat) (n : Nat) (i : Nat) : Nat := match p[i]? with
  | some q => q
  | none => n + (i - p.length)
def mapOs (f : Nat → Nat) : List AO → List AO
  | [] => []
  | o :: A => mapO f o :: mapOs f A
def updA (f : Nat → Nat) : List AO → List Nat → List AO → List AO
  | A, [], As => A ++ mapOs f As
  | A, q :: p, o :: As => updA f (A.set q (mapO f o)) p As
  | A, _ :: _, [] => A
def FrA (f : Nat → Nat) (A : List AO) : List Nat → List AO → Prop
  | [], [] => True
  | q :: p, o :: As => (A[q]? = some (mapO f o) ∧ (match o with | .box vs => okLB (As.length + p.length + 1) vs = true | _ => True)) ∧ FrA f A p As
  | _, _ => False
def memB (q : Nat) : List Nat → Bool
  | [] => false
  | x :: l => Nat.beq x q || memB q l
def ndB : List Nat → Bool
  | [] => true
  | q :: p => !memB q p && ndB p
def frB (p : List Nat) (n : Nat) : Bool := (p.all fun q => Nat.blt q n) && ndB p
theorem memB_of {q : Nat} : ∀ {l : List Nat}, q ∈ l → memB q l = true
  | x :: l, h => by
    unfold memB
    rcases List.mem_cons.1 h with rfl | h
    · simp
    · rw [memB_of h]; simp
theorem ndB_of : ∀ {l : List Nat}, ndB l = true → l.Nodup
  | [], _ => List.nodup_nil
  | q :: p, h => by
    unfold ndB at h
    simp only [Bool.and_eq_true, Bool.not_eq_true'] at h
    rw [List.nodup_cons]
    exact ⟨fun hm => by rw [memB_of hm] at h; exact absurd h.1 (by simp), ndB_of h.2⟩
theorem mapOs_at (f : Nat → Nat) : ∀ (A : List AO) (i : Nat), (mapOs f A)[i]? = (A[i]?).map (mapO f)
  | [], i => by simp [mapOs]
  | o :: A, 0 => by simp [mapOs]
  | o :: A, i + 1 => by simp [mapOs, mapOs_at f A i]
theorem mapOs_len (f : Nat → Nat) : ∀ A : List AO, (mapOs f A).length = A.length
  | [] => rfl
  | o :: A => by simp [mapOs, mapOs_len f A]
theorem updA_len (f : Nat → Nat) : ∀ (p : List Nat) (A As : List AO), p.length ≤ As.length → (updA f A p As).length = A.length + (As.length - p.length)
  | [], A, As, _ => by simp [updA, mapOs_len]
  | q :: p, A, [], h => by simp at h
  | q :: p, A, o :: As, h => by
    unfold updA
    rw [updA_len f p _ As (by simpa using h)]
    simp
theorem updA_new (f : Nat → Nat) : ∀ (p : List Nat) (A As : List AO) (i : Nat), p.length ≤ As.length → (updA f A p As)[A.length + i]? = (As[p.length + i]?).map (mapO f)
  | [], A, As, i, _ => by unfold updA; rw [List.getElem?_append_right (by omega)]; simp [mapOs_at]
  | q :: p, A, [], i, h => by simp at h
  | q :: p, A, o :: As, i, h => by
    unfold updA
    have := updA_new f p (A.set q (mapO f o)) As i (by simpa using h)
    rw [List.length_set] at this
    rw [this, List.length_cons, show p.length + 1 + i = (p.length + i) + 1 by omega, List.getElem?_cons_succ]
theorem updA_other (f : Nat → Nat) : ∀ (p : List Nat) (A As : List AO) (t : Nat), t < A.length → t ∉ p → p.length ≤ As.length → (updA f A p As)[t]? = A[t]?
  | [], A, As, t, h, _, _ => by unfold updA; rw [List.getElem?_append_left h]
  | q :: p, A, [], t, _, _, h => by simp at h
  | q :: p, A, o :: As, t, h, hp, hl => by
    unfold updA
    simp only [List.mem_cons, not_or] at hp
    rw [updA_other f p _ As t (by simpa using h) hp.2 (by simpa using hl), List.getElem?_set_ne (fun e => hp.1 e.symm)]
theorem updA_in (f : Nat → Nat) : ∀ (p : List Nat) (A As : List AO) (i q : Nat), p[i]? = some q → q < A.length → p.Nodup → p.length ≤ As.length → (updA f A p As)[q]? = (As[i]?).map (mapO f)
  | [], A, As, i, q, h, _, _, _ => by simp at h
  | q0 :: p, A, [], i, q, _, _, _, h => by simp at h
  | q0 :: p, A, o :: As, 0, q, h, hq, hn, hl => by
    simp at h; subst h
    unfold updA
    rw [List.nodup_cons] at hn
    rw [updA_other f p _ As q0 (by simpa using hq) hn.1 (by simpa using hl), List.getElem?_set_self hq]; rfl
  | q0 :: p, A, o :: As, i + 1, q, h, hq, hn, hl => by
    unfold updA
    rw [List.nodup_cons] at hn
    rw [updA_in f p _ As i q (by simpa using h) (by simpa using hq) hn.2 (by simpa using hl)]; simp
theorem frA_at {f : Nat → Nat} {A : List AO} : ∀ {p : List Nat} {As : List AO}, FrA f A p As → p.length = As.length ∧ ∀ (i q : Nat), p[i]? = some q → ∃ o, As[i]? = some o ∧ A[q]? = some (mapO f o)
  | [], [], _ => ⟨rfl, fun i q h => by simp at h⟩
  | [], _ :: _, h => h.elim
  | _ :: _, [], h => h.elim
  | q0 :: p, o :: As, h => by
    obtain ⟨h1, h2⟩ := frA_at h.2
    refine ⟨by simp [h1], fun i q hi => ?_⟩
    cases i with
    | zero => simp at hi; subst hi; exact ⟨o, rfl, h.1.1⟩
    | succ i => obtain ⟨o', k1, k2⟩ := h2 i q (by simpa using hi); exact ⟨o', by simpa using k1, k2⟩
theorem okLB_mono {n m : Nat} (h : n = m) {l : List AV} (hl : okLB n l = true) : okLB m l = true := by subst h; exact hl
theorem frB_of {p : List Nat} {n : Nat} (h : frB p n = true) : (∀ q ∈ p, q < n) ∧ p.Nodup := by
  unfold frB at h
  simp only [Bool.and_eq_true] at h
  exact ⟨fun q hq => blt_of (List.all_eq_true.1 h.1 q hq), ndB_of h.2⟩
theorem nodup_inj {p : List Nat} (hn : p.Nodup) {i j q : Nat} (hi : p[i]? = some q) (hj : p[j]? = some q) : i = j := by
  have hi' := get_lt hi
  have hj' := get_lt hj
  rw [List.getElem?_eq_getElem hi'] at hi
  rw [List.getElem?_eq_getElem hj'] at hj
  exact (List.getElem_inj hn).1 ((Option.some.inj hi).trans (Option.some.inj hj).symm)
theorem acall_frame {P : Program} {G : List (Nat × Value)} {f : FuncId} {args : List AV} {A : List AO} {K : AV → List AO → Prop} (p : List Nat) (As : List AO) (args' : List AV)
    (hB : frB p A.length = true) (hA : FrA (nameOf p) A p As) (hok : okLB As.length args' = true ∧ As.all (fun o => match o with | .box vs => okLB As.length vs | _ => true) = true) (hargs : args = mapL (nameOf p) args')
    (h : ACall P G f args' As fun r As' => K (r.map (frN p A.length)) (updA (frN p A.length) A p As')) : ACall P G f args A K := by
  refine ⟨h.body, fun c H hcA hG vs hv => ?_⟩
  subst hcA
  obtain ⟨hpl, hpn⟩ := frB_of hB
  obtain ⟨hlen, hat⟩ := frA_at hA
  have nm : ∀ i q, p[i]? = some q → nameOf p i = q := fun i q hi => by unfold nameOf; rw [List.getD, hi]; rfl
  -- the callee's state
  let cs : Cx := { ρ := fun i => c.ρ (nameOf p i), A := As, X := fun b => c.X b ∨ ∃ t, c.live t ∧ t ∉ p ∧ c.ρ t = some b, w := c.w, G := c.G }
  have csA : ∀ (i : Nat) o, As[i]? = some o → ∃ q, p[i]? = some q ∧ nameOf p i = q ∧ c.A[q]? = some (mapO (nameOf p) o) := fun i o hi => by
    have hlt : i < p.length := by have := get_lt hi; omega
    obtain ⟨o', k1, k2⟩ := hat i p[i] (List.getElem?_eq_getElem hlt)
    rw [hi] at k1; cases k1
    exact ⟨p[i], List.getElem?_eq_getElem hlt, nm _ _ (List.getElem?_eq_getElem hlt), k2⟩
  have csLive : ∀ i, cs.live i → c.live (nameOf p i) ∧ nameOf p i ∈ p := fun i ⟨o, h1, h2⟩ => by
    obtain ⟨q, k1, k2, k3⟩ := csA i o h1
    exact ⟨⟨_, by rw [k2]; exact k3, mapO_live h2⟩, by rw [k2]; exact List.mem_of_getElem? k1⟩
  have csI : ∀ b, c.I b → cs.I b := fun b hb => by
    refine ⟨?_, fun i hi => hb.2 _ (csLive i hi).1⟩
    rintro (hx | ⟨t, h1, _, h3⟩)
    · exact hb.1 hx
    · exact hb.2 t h1 h3
  have B : Bw (nameOf p) c cs := ⟨csI, rfl, fun t o h1 h2 => by
    obtain ⟨q, k1, k2, k3⟩ := csA t o h1
    exact ⟨by rw [k2]; exact k3, rfl⟩⟩
  have Hs : HR cs := by
    refine ⟨fun i b hi hb => ?_, fun i j b hi hj h1 h2 => ?_, fun i o hi => ?_, fun b hb => ?_, fun g v hgv => ?_⟩
    · obtain ⟨l1, l2⟩ := csLive i hi
      rintro (hx | ⟨t, h1, h2, h3⟩)
      · exact H.far _ b l1 hb hx
      · have := H.inj _ t b l1 h1 hb h3
        rw [this] at l2; exact h2 l2
    · have := H.inj _ _ b (csLive i hi).1 (csLive j hj).1 h1 h2
      obtain ⟨o, h3, _⟩ := hi
      obtain ⟨o', h4, _⟩ := hj
      obtain ⟨q, k1, k2, _⟩ := csA i o h3
      obtain ⟨q', j1, j2, _⟩ := csA j o' h4
      rw [k2, j2] at this
      subst this
      exact nodup_inj hpn k1 j1
    · obtain ⟨q, k1, k2, k3⟩ := csA i o hi
      have ho := H.obj q _ k3
      show ObjOk cs (c.ρ (nameOf p i)) o
      rw [k2]
      cases o with
      | dead => trivial
      | row e xs =>
        rcases ho with h | ⟨b, cells, et, h1, h2, h3⟩
        · exact .inl h
        · refine .inr ⟨b, cells, et, h1, h2, fun j hj => ?_⟩
          obtain ⟨ds, j1, j2⟩ := h3 j hj
          exact ⟨ds, bw_fz B j1, j2⟩
      | box us =>
        obtain ⟨b, cells, et, h1, h2, h3⟩ := ho
        refine ⟨b, cells, et, h1, h2, bw_relL B us cells ?_ h3⟩
        have := List.all_eq_true.1 hok.2 _ (List.mem_of_getElem? hi)
        exact this
    · rcases hb with hx | ⟨t, h1, _, h3⟩
      · exact H.old b hx
      · exact H.lt h1 h3
    · exact (H.glo g v hgv).mono fun b hb _ => ⟨csI b hb, rfl⟩
  have hvs : RelL cs args' vs := bw_relL B args' vs hok.1 (by rw [← hargs]; exact hv)
  refine (h.run cs Hs rfl hG vs hvs).mono fun e w' ⟨v, c1, r, he, hw, E1, H1, hr, hK⟩ => ?_
  have hk1 : p.length ≤ c1.A.length := by have := E1.le.len; rw [hlen]; exact this
  -- the caller's state
  let ix : Nat → Option Nat := fun t => p.idxOf? t
  have ixS : ∀ t i, ix t = some i → p[i]? = some t := fun t i h => by
    obtain ⟨hlt, he, _⟩ := List.idxOf?_eq_some_iff.1 h
    rw [List.getElem?_eq_getElem hlt, he]
  have ixN : ∀ t, ix t = none → t ∉ p := fun t h => List.idxOf?_eq_none_iff.1 h
  have ixI : ∀ (i t : Nat), p[i]? = some t → ix t = some i := fun i t h => by
    cases hx : ix t with
    | none => exact absurd (List.mem_of_getElem? h) (ixN t hx)
    | some j => rw [nodup_inj hpn (ixS t j hx) h]
  have hXs : ∀ b, c1.X b ↔ (c.X b ∨ ∃ t, c.live t ∧ t ∉ p ∧ c.ρ t = some b) := fun b => by rw [E1.X]
  let c2 : Cx := { ρ := fun t => match ix t with | some i => c1.ρ i | none => if t < c.A.length then c.ρ t else c1.ρ (p.length + (t - c.A.length)), A := updA (frN p c.A.length) c.A p c1.A, X := c.X, w := c1.w, G := c.G }
  have len2 : c2.A.length = c.A.length + (c1.A.length - p.length) := updA_len _ p c.A c1.A hk1
  have fN : ∀ i, i < c1.A.length → (∃ q, p[i]? = some q ∧ frN p c.A.length i = q) ∨ (p.length ≤ i ∧ frN p c.A.length i = c.A.length + (i - p.length)) := fun i _ => by
    unfold frN
    cases hp : p[i]? with
    | some q => exact .inl ⟨q, rfl, rfl⟩
    | none => exact .inr ⟨List.getElem?_eq_none_iff.1 hp, rfl⟩
  -- within to without
  have tok2 : ∀ (i : Nat) o, c1.A[i]? = some o → c2.A[frN p c.A.length i]? = some (mapO (frN p c.A.length) o) ∧ c2.ρ (frN p c.A.length i) = c1.ρ i := fun i o hi => by
    rcases fN i (get_lt hi) with ⟨q, h1, h2⟩ | ⟨h1, h2⟩
    · rw [h2]
      refine ⟨?_, ?_⟩
      · show (updA _ _ _ _)[q]? = _
        rw [updA_in _ p c.A c1.A i q h1 (hpl q (List.mem_of_getElem? h1)) hpn hk1, hi]; rfl
      · show (match ix q with | some i => c1.ρ i | none => _) = _
        rw [ixI i q h1]
    · rw [h2]
      refine ⟨?_, ?_⟩
      · show (updA _ _ _ _)[c.A.length + (i - p.length)]? = _
        rw [updA_new _ p c.A c1.A _ hk1, show p.length + (i - p.length) = i by omega, hi]; rfl
      · show (match ix (c.A.length + (i - p.length)) with | some i => c1.ρ i | none => _) = _
        cases hx : ix (c.A.length + (i - p.length)) with
        | some j => have := hpl _ (List.mem_of_getElem? (ixS _ _ hx)); omega
        | none =>
          simp only
          rw [if_neg (by omega), show p.length + (c.A.length + (i - p.length) - c.A.length) = i by omega]
  -- without: an old one, or one within
  have back : ∀ t, t < c2.A.length → (t < c.A.length ∧ t ∉ p ∧ c2.A[t]? = c.A[t]? ∧ c2.ρ t = c.ρ t) ∨ ∃ i o, c1.A[i]? = some o ∧ frN p c.A.length i = t ∧ c2.A[t]? = some (mapO (frN p c.A.length) o) ∧ c2.ρ t = c1.ρ i := fun t ht => by
    rw [len2] at ht
    have inn : ∀ i, i < c1.A.length → frN p c.A.length i = t → ∃ i o, c1.A[i]? = some o ∧ frN p c.A.length i = t ∧ c2.A[t]? = some (mapO (frN p c.A.length) o) ∧ c2.ρ t = c1.ρ i := fun i hi hf => by
      obtain ⟨k1, k2⟩ := tok2 i _ (List.getElem?_eq_getElem hi)
      rw [hf] at k1 k2
      exact ⟨i, _, List.getElem?_eq_getElem hi, hf, k1, k2⟩
    by_cases hlt : t < c.A.length
    · cases hx : ix t with
      | none =>
        have hnp := ixN t hx
        refine .inl ⟨hlt, hnp, updA_other _ p c.A c1.A t hlt hnp hk1, ?_⟩
        show (match ix t with | some i => c1.ρ i | none => _) = _
        rw [hx]; simp only; rw [if_pos hlt]
      | some i =>
        have hp := ixS t i hx
        exact .inr (inn i (by have := get_lt hp; omega) (by unfold frN; rw [hp]))
    · exact .inr (inn (p.length + (t - c.A.length)) (by omega) (by
        unfold frN
        rw [List.getElem?_eq_none (by omega)]
        simp only; omega))
  have fInj : ∀ (i j : Nat), i < c1.A.length → j < c1.A.length → frN p c.A.length i = frN p c.A.length j → i = j := fun i j hi hj h => by
    rcases fN i hi with ⟨q, h1, h2⟩ | ⟨h1, h2⟩ <;> rcases fN j hj with ⟨q', h3, h4⟩ | ⟨h3, h4⟩
    · rw [h2, h4] at h; subst h; exact nodup_inj hpn h1 h3
    · have := hpl _ (List.mem_of_getElem? h1); omega
    · have := hpl _ (List.mem_of_getElem? h3); omega
    · omega
  have live2 : ∀ t, c2.live t → (t < c.A.length ∧ t ∉ p ∧ c.live t ∧ c2.ρ t = c.ρ t) ∨ ∃ i, c1.live i ∧ frN p c.A.length i = t ∧ c2.ρ t = c1.ρ i := fun t ht => by
    have hlt := live_lt ht
    obtain ⟨o, h1, h2⟩ := ht
    rcases back t hlt with ⟨k1, k2, k3, k4⟩ | ⟨i, o', k1, k2, k3, k4⟩
    · rw [k3] at h1; exact .inl ⟨k1, k2, ⟨o, h1, h2⟩, k4⟩
    · rw [k3] at h1; cases h1
      exact .inr ⟨i, ⟨o', k1, by cases o' <;> first | rfl | cases h2⟩, k2, k4⟩
  have I2 : ∀ b, c1.I b → c2.I b := fun b hb => by
    have hx := fun h => hb.1 ((hXs b).2 h)
    refine ⟨fun h => hx (.inl h), fun t ht he => ?_⟩
    rcases live2 t ht with ⟨k1, k2, k3, k4⟩ | ⟨i, k1, k2, k3⟩
    · rw [k4] at he; exact hx (.inr ⟨t, k3, k2, he⟩)
    · rw [k3] at he; exact hb.2 i k1 he
  have F : Fw (frN p c.A.length) c1 c2 := ⟨I2, rfl, fun i o hi => ⟨(tok2 i o hi).1, fun _ => (tok2 i o hi).2⟩⟩
  have E2 : Ext c c2 := by
    refine ⟨⟨fun b hb hlt => ?_, fun t ht => ?_, by rw [len2]; omega⟩, rfl, rfl, fun b hb => E1.far b (.inl hb), E1.st⟩
    · obtain ⟨k1, k2⟩ := E1.le.I b (csI b hb) hlt
      exact ⟨I2 b k1, k2⟩
    · unfold TokLe
      rcases back t (by rw [len2]; omega) with ⟨k1, k2, k3, k4⟩ | ⟨i, o, k1, k2, k3, k4⟩
      · rw [k3]
        cases ho : c.A[t]? with
        | none => rw [List.getElem?_eq_none_iff] at ho; omega
        | some o =>
          cases o with
          | dead => trivial
          | box us => exact .inl ⟨⟨us, rfl⟩, k4⟩
          | row e xs =>
            refine ⟨⟨xs, rfl⟩, k4, fun b cells et hb hh => ⟨cells, ?_, rfl⟩⟩
            rw [← hh]
            exact E1.far b (.inr ⟨t, ⟨_, ho, rfl⟩, k2, hb⟩)
      · rcases fN i (get_lt k1) with ⟨q, h1, h2⟩ | ⟨h1, h2⟩
        · have hqt : q = t := h2.symm.trans k2
          subst hqt
          have hi : i < As.length := by have := get_lt h1; omega
          have htok := E1.le.tok i hi
          unfold TokLe at htok
          rw [k1] at htok
          rw [k3]
          obtain ⟨o0, m1, m2⟩ := hat i q h1
          cases o with
          | dead => trivial
          | row e xs =>
            simp only [mapO] at htok ⊢
            obtain ⟨⟨xs0, n1⟩, n2, n3⟩ := htok
            have n1 : As[i]? = some (.row e xs0) := n1
            rw [m1] at n1; cases n1
            have n2 : c1.ρ i = c.ρ (nameOf p i) := n2
            rw [nm i q h1] at n2
            refine ⟨⟨xs0, m2⟩, k4.trans n2, fun b cells et hb hh => n3 b cells et ?_ hh⟩
            show c.ρ (nameOf p i) = _
            rw [nm i q h1]; exact hb
          | box us =>
            simp only [mapO] at htok ⊢
            rcases htok with ⟨⟨us0, n1⟩, n2⟩ | ⟨e, xs0, n1⟩
            · have n1 : As[i]? = some (.box us0) := n1
              rw [m1] at n1; cases n1
              have n2 : c1.ρ i = c.ρ (nameOf p i) := n2
              rw [nm i q h1] at n2
              exact .inl ⟨⟨_, m2⟩, k4.trans n2⟩
            · have n1 : As[i]? = some (.row e xs0) := n1
              rw [m1] at n1; cases n1
              exact .inr ⟨e, xs0, m2⟩
        · omega
  have H2 : HR c2 := by
    refine ⟨fun t b ht hb => ?_, fun t u b ht hu h1 h2 => ?_, fun t o ho => ?_, fun b hb => H1.old b ((hXs b).2 (.inl hb)), fun g v' hgv => ?_⟩
    · rcases live2 t ht with ⟨k1, k2, k3, k4⟩ | ⟨i, k1, k2, k3⟩
      · rw [k4] at hb; exact H.far t b k3 hb
      · rw [k3] at hb; exact fun hx => H1.far i b k1 hb ((hXs b).2 (.inl hx))
    · rcases live2 t ht with ⟨k1, k2, k3, k4⟩ | ⟨i, k1, k2, k3⟩ <;> rcases live2 u hu with ⟨j1, j2, j3, j4⟩ | ⟨j, j1, j2, j3⟩
      · rw [k4] at h1; rw [j4] at h2; exact H.inj t u b k3 j3 h1 h2
      · rw [k4] at h1; rw [j3] at h2
        exact absurd ((hXs b).2 (.inr ⟨t, k3, k2, h1⟩)) (H1.far j b j1 h2)
      · rw [k3] at h1; rw [j4] at h2
        exact absurd ((hXs b).2 (.inr ⟨u, j3, j2, h2⟩)) (H1.far i b k1 h1)
      · rw [k3] at h1; rw [j3] at h2
        rw [← k2, ← j2, H1.inj i j b k1 j1 h1 h2]
    · rcases back t (get_lt ho) with ⟨k1, k2, k3, k4⟩ | ⟨i, o', k1, k2, k3, k4⟩
      · rw [k3] at ho
        rw [k4]
        refine objOk_ext E2 (H.obj t o ho) (fun hl b hb => ?_)
        exact E1.far b (.inr ⟨t, ⟨o, ho, hl⟩, k2, hb⟩)
      · rw [k3] at ho; cases ho
        rw [k4]
        exact fw_obj F (H1.obj i o' k1)
    · exact (H.glo g v' hgv).mono E2.le.I
  exact ⟨v, c2, r.map (frN p c.A.length), he, hw, E2, H2, fw_rel F r v hr, hK⟩
/-! ### with nothing of one's own -/
mutual
theorem map_okB (f : Nat → Nat) : ∀ a : AV, a.okB 0 = true → a.map f = a
  | .fz _ _, _ => rfl
  | .fptr _ _, _ => rfl
  | .ref _ _ _, h => by simp [AV.okB, Nat.blt] at h
  | .nilSl, _ => rfl
  | .ptr _ _, h => by simp [AV.okB, Nat.blt] at h
  | .elt _ _ _, h => by simp [AV.okB, Nat.blt] at h
  | .glob _, _ => rfl
  | .agg l, h => by unfold AV.map; rw [mapL_okB f l h]
  | .tup l, h => by unfold AV.map; rw [mapL_okB f l h]
  | .fn _ l, h => by unfold AV.map; rw [mapL_okB f l h]
  | .ifc _ a, h => by unfold AV.map; rw [map_okB f a h]
  | .opt _ a, h => by unfold AV.map; rw [map_okB f a h]
  | .unk, _ => rfl
theorem mapL_okB (f : Nat → Nat) : ∀ l : List AV, okLB 0 l = true → mapL f l = l
  | [], _ => rfl
  | a :: l, h => by
    unfold okLB at h
    simp only [Bool.and_eq_true] at h
    unfold mapL
    rw [map_okB f a h.1, mapL_okB f l h.2]
end
theorem acall_frame0 {P : Program} {G : List (Nat × Value)} {f : FuncId} {args : List AV} {A : List AO} {K : AV → List AO → Prop} (hok : okLB 0 args = true)
    (h : ACall P G f args [] fun r As' => K (r.map (frN [] A.length)) (A ++ mapOs (frN [] A.length) As')) : ACall P G f args A K :=
  acall_frame [] [] args rfl trivial ⟨hok, rfl⟩ (mapL_okB _ _ hok).symm (h.mono fun r As' hk => by unfold updA; exact hk)
end Go.Ab
