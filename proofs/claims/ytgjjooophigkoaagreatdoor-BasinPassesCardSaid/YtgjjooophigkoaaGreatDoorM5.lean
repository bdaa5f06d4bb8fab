/-
  A call whose function knows of few objects, in a place that knows of more.
-/
import Derived.Test.YtgjjooophigkoaaGreatDoorM4
import Derived.ChangeShapes
import Derived.WideShapes
import Derived.Deep.Slices
import Derived.Below
import Derived.LaidLaws
import Derived.Test.YtgjjooophigkoaaGreatDoorChecked
import Derived.KernelRfl
namespace Go.Ab
open Go
/-! ### forward -/
structure Fw (f : Nat → Nat) (c c2 : Cx) : Prop where
  I : ∀ b, c.I b → c2.I b
  w : c2.w = c.w
  tok : ∀ (t : Nat) o, c.A[t]? = some o → c2.A[f t]? = some (mapO f o) ∧ (o.live = true → c2.ρ (f t) = c.ρ t)
section
variable {f : Nat → Nat} {c c2 : Cx}
theorem fw_fz (F : Fw f c c2) {t : Ty} {x : t.den} {vs : List Value} (h : FzC c.I c.w t x vs) : FzC c2.I c2.w t x vs := h.mono fun b hb _ => ⟨F.I b hb, by rw [F.w]⟩
mutual
theorem fw_rel (F : Fw f c c2) : ∀ (a : AV) (v : Value), Rel c a v → Rel c2 (a.map f) v
  | .fz t x, v, h => by
    unfold AV.map; unfold Rel at *
    obtain ⟨cs, h1, h2⟩ := h
    exact ⟨cs, fw_fz F h1, h2⟩
  | .fptr t x, v, h => by
    unfold AV.map; unfold Rel at *
    obtain ⟨b, off, cs, h1, h2, h3, h4, h5⟩ := h
    exact ⟨b, off, cs, h1, F.I b h2, by rw [F.w]; exact h3, fw_fz F h4, by rw [F.w]; exact h5⟩
  | .ref tok off len, v, h => by
    unfold AV.map; unfold Rel at *
    cases ho : c.A[tok]? with
    | none => rw [ho] at h; exact h.elim
    | some o =>
      obtain ⟨k1, k2⟩ := F.tok tok o ho
      rw [ho] at h
      rw [k1]
      cases o with
      | dead => trivial
      | room => exact h
      | box vs => trivial
      | mapo i vs => trivial
      | row e xs =>
        have k2 := k2 rfl
        simp only [mapO] at h ⊢
        rw [k2, F.w]; exact h
  | .nilSl, v, h => by unfold AV.map; unfold Rel at *; exact h
  | .ptr tok off, v, h => by
    unfold AV.map; unfold Rel at *
    cases ho : c.A[tok]? with
    | none => rw [ho] at h; exact h.elim
    | some o =>
      obtain ⟨k1, k2⟩ := F.tok tok o ho
      rw [ho] at h
      rw [k1]
      cases o with
      | dead => trivial
      | room => exact h
      | row e xs => exact h
      | box vs =>
        have k2 := k2 rfl
        simp only [mapO] at h ⊢
        rw [k2]; exact h
      | mapo i vs =>
        have k2 := k2 rfl
        simp only [mapO] at h ⊢
        rw [k2]; exact h
  | .elt tok i off, v, h => by
    unfold AV.map; unfold Rel at *
    cases ho : c.A[tok]? with
    | none => rw [ho] at h; exact h.elim
    | some o =>
      obtain ⟨k1, k2⟩ := F.tok tok o ho
      rw [ho] at h
      rw [k1]
      cases o with
      | dead => trivial
      | room => exact h
      | box vs => trivial
      | mapo i vs => trivial
      | row e xs =>
        have k2 := k2 rfl
        simp only [mapO] at h ⊢
        rw [k2]; exact h
  | .glob g, v, h => by unfold AV.map; unfold Rel at *; exact h
  | .agg l, v, h => by
    unfold AV.map; unfold Rel at *
    obtain ⟨vs, h1, h2⟩ := h
    exact ⟨vs, h1, fw_relL F l vs h2⟩
  | .tup l, v, h => by
    unfold AV.map; unfold Rel at *
    obtain ⟨vs, h1, h2⟩ := h
    exact ⟨vs, h1, fw_relL F l vs h2⟩
  | .fn g l, v, h => by
    unfold AV.map; unfold Rel at *
    obtain ⟨vs, h1, h2⟩ := h
    exact ⟨vs, h1, fw_relL F l vs h2⟩
  | .ifc t a, v, h => by
    unfold AV.map; unfold Rel at *
    obtain ⟨u, h1, h2⟩ := h
    exact ⟨u, h1, fw_rel F a u h2⟩
  | .opt g a, v, h => by
    unfold AV.map; unfold Rel at *
    exact ⟨fun hg => fw_rel F a v (h.1 hg), h.2⟩
  | .unk, v, _ => by unfold AV.map; unfold Rel; trivial
theorem fw_relL (F : Fw f c c2) : ∀ (l : List AV) (vs : List Value), RelL c l vs → RelL c2 (mapL f l) vs
  | [], vs, h => by unfold mapL; exact h
  | a :: l, vs, h => by
    unfold mapL
    unfold RelL at *
    obtain ⟨v, r, e, h1, h2⟩ := h
    exact ⟨v, r, e, fw_rel F a v h1, fw_relL F l r h2⟩
end
theorem fw_obj (F : Fw f c c2) {r : Option Nat} {o : AO} (h : ObjOk c r o) : ObjOk c2 r (mapO f o) := by
  cases o with
  | dead => trivial
  | room => trivial
  | row e xs =>
    rcases h with h | ⟨b, cs, et, h1, h2, h3⟩
    · exact .inl h
    · refine .inr ⟨b, cs, et, h1, by rw [F.w]; exact h2, fun i hi => ?_⟩
      obtain ⟨ds, k1, k2⟩ := h3 i hi
      exact ⟨ds, fw_fz F k1, k2⟩
  | box vs =>
    obtain ⟨b, cs, et, h1, h2, h3⟩ := h
    exact ⟨b, cs, et, h1, by rw [F.w]; exact h2, fw_relL F vs cs h3⟩
  | mapo i vs =>
    obtain ⟨b, ob, us, h1, h2, h4, h3⟩ := h
    exact ⟨b, ob, us, h1, by rw [F.w]; exact h2, h4, fw_relL F vs us h3⟩
end
/-! ### backward -/
structure Bw (π : Nat → Nat) (c c2 : Cx) : Prop where
  I : ∀ b, c.I b → c2.I b
  w : c2.w = c.w
  tok : ∀ (t : Nat) o, c2.A[t]? = some o → o.live = true → c.A[π t]? = some (mapO π o) ∧ c2.ρ t = c.ρ (π t)
  room : ∀ (t : Nat), c2.A[t]? = some .room → c.A[π t]? = some .room
section
variable {π : Nat → Nat} {c c2 : Cx}
theorem bw_fz (B : Bw π c c2) {t : Ty} {x : t.den} {vs : List Value} (h : FzC c.I c.w t x vs) : FzC c2.I c2.w t x vs := h.mono fun b hb _ => ⟨B.I b hb, by rw [B.w]⟩
mutual
theorem bw_rel (B : Bw π c c2) : ∀ (a : AV) (v : Value), a.okB c2.A.length = true → Rel c (a.map π) v → Rel c2 a v
  | .fz t x, v, _, h => by
    unfold AV.map at h; unfold Rel at *
    obtain ⟨cs, h1, h2⟩ := h
    exact ⟨cs, bw_fz B h1, h2⟩
  | .fptr t x, v, _, h => by
    unfold AV.map at h; unfold Rel at *
    obtain ⟨b, off, cs, h1, h2, h3, h4, h5⟩ := h
    exact ⟨b, off, cs, h1, B.I b h2, by rw [B.w]; exact h3, bw_fz B h4, by rw [B.w]; exact h5⟩
  | .ref tok off len, v, hok, h => by
    unfold AV.map at h; unfold AV.okB at hok; unfold Rel at *
    have hlt := blt_of hok
    have hA : c2.A[tok]? = some c2.A[tok] := List.getElem?_eq_getElem hlt
    rw [hA]
    cases ho : c2.A[tok] with
    | dead => trivial
    | room =>
      rw [ho] at hA
      rw [B.room tok hA] at h; exact h.elim
    | box vs => trivial
    | mapo i vs => trivial
    | row e xs =>
      rw [ho] at hA
      obtain ⟨k1, k2⟩ := B.tok tok _ hA rfl
      rw [k1] at h
      simp only [mapO] at h ⊢
      rw [k2, B.w]; exact h
  | .nilSl, v, _, h => by unfold AV.map at h; unfold Rel at *; exact h
  | .ptr tok off, v, hok, h => by
    unfold AV.map at h; unfold AV.okB at hok; unfold Rel at *
    have hlt := blt_of hok
    have hA : c2.A[tok]? = some c2.A[tok] := List.getElem?_eq_getElem hlt
    rw [hA]
    cases ho : c2.A[tok] with
    | dead => trivial
    | room =>
      rw [ho] at hA
      rw [B.room tok hA] at h; exact h.elim
    | row e xs =>
      rw [ho] at hA
      obtain ⟨k1, k2⟩ := B.tok tok _ hA rfl
      rw [k1] at h
      exact h
    | box vs =>
      rw [ho] at hA
      obtain ⟨k1, k2⟩ := B.tok tok _ hA rfl
      rw [k1] at h
      simp only [mapO] at h ⊢
      rw [k2]; exact h
    | mapo i vs =>
      rw [ho] at hA
      obtain ⟨k1, k2⟩ := B.tok tok _ hA rfl
      rw [k1] at h
      simp only [mapO] at h ⊢
      rw [k2]; exact h
  | .elt tok i off, v, hok, h => by
    unfold AV.map at h; unfold AV.okB at hok; unfold Rel at *
    have hlt := blt_of hok
    have hA : c2.A[tok]? = some c2.A[tok] := List.getElem?_eq_getElem hlt
    rw [hA]
    cases ho : c2.A[tok] with
    | dead => trivial
    | room =>
      rw [ho] at hA
      rw [B.room tok hA] at h; exact h.elim
    | box vs => trivial
    | mapo i vs => trivial
    | row e xs =>
      rw [ho] at hA
      obtain ⟨k1, k2⟩ := B.tok tok _ hA rfl
      rw [k1] at h
      simp only [mapO] at h ⊢
      rw [k2]; exact h
  | .glob g, v, _, h => by unfold AV.map at h; unfold Rel at *; exact h
  | .agg l, v, hok, h => by
    unfold AV.map at h; unfold AV.okB at hok; unfold Rel at *
    obtain ⟨vs, h1, h2⟩ := h
    exact ⟨vs, h1, bw_relL B l vs hok h2⟩
  | .tup l, v, hok, h => by
    unfold AV.map at h; unfold AV.okB at hok; unfold Rel at *
    obtain ⟨vs, h1, h2⟩ := h
    exact ⟨vs, h1, bw_relL B l vs hok h2⟩
  | .fn g l, v, hok, h => by
    unfold AV.map at h; unfold AV.okB at hok; unfold Rel at *
    obtain ⟨vs, h1, h2⟩ := h
    exact ⟨vs, h1, bw_relL B l vs hok h2⟩
  | .ifc t a, v, hok, h => by
    unfold AV.map at h; unfold AV.okB at hok; unfold Rel at *
    obtain ⟨u, h1, h2⟩ := h
    exact ⟨u, h1, bw_rel B a u hok h2⟩
  | .opt g a, v, hok, h => by
    unfold AV.map at h; unfold AV.okB at hok; unfold Rel at *
    exact ⟨fun hg => bw_rel B a v hok (h.1 hg), h.2⟩
  | .unk, v, _, _ => by unfold Rel; trivial
theorem bw_relL (B : Bw π c c2) : ∀ (l : List AV) (vs : List Value), okLB c2.A.length l = true → RelL c (mapL π l) vs → RelL c2 l vs
  | [], vs, _, h => by unfold mapL at h; exact h
  | a :: l, vs, hok, h => by
    unfold okLB at hok
    simp only [Bool.and_eq_true] at hok
    unfold mapL at h
    unfold RelL at *
    obtain ⟨v, r, e, h1, h2⟩ := h
    exact ⟨v, r, e, bw_rel B a v hok.1 h1, bw_relL B l r hok.2 h2⟩
end
end
/-! ### the frame -/
/-- names within a call as names without -/
def frN (p : List Nat) (n : Nat) (i : Nat) : Nat := match p[i]? with
  | some q => q
  | none => n + (i - p.length)
def mapOs (f : Nat → Nat) : List AO → List AO
  | [] => []
  | o :: A => mapO f o :: mapOs f A
def updA (f : Nat → Nat) : List AO → List Nat → List AO → List AO
  | A, [], As => A ++ mapOs f As
  | A, q :: p, o :: As => updA f (A.set q (mapO f o)) p As
  | A, _ :: _, [] => A
def FrA (f : Nat → Nat) (A : List AO) : List Nat → List AO → Prop
  | [], [] => True
  | q :: p, o :: As => (A[q]? = some (mapO f o) ∧ (match o with | .box vs => okLB (As.length + p.length + 1) vs = true | .mapo _ vs => okLB (As.length + p.length + 1) vs = true | _ => True)) ∧ FrA f A p As
  | _, _ => False
def memB (q : Nat) : List Nat → Bool
  | [] => false
  | x :: l => Nat.beq x q || memB q l
def ndB : List Nat → Bool
  | [] => true
  | q :: p => !memB q p && ndB p
def frB (p : List Nat) (n : Nat) : Bool := (p.all fun q => Nat.blt q n) && ndB p
theorem memB_of {q : Nat} : ∀ {l : List Nat}, q ∈ l → memB q l = true
  | x :: l, h => by
    unfold memB
    rcases List.mem_cons.1 h with rfl | h
    · simp
    · rw [memB_of h]; simp
theorem ndB_of : ∀ {l : List Nat}, ndB l = true → l.Nodup
  | [], _ => List.nodup_nil
  | q :: p, h => by
    unfold ndB at h
    simp only [Bool.and_eq_true, Bool.not_eq_true'] at h
    rw [List.nodup_cons]
    exact ⟨fun hm => by rw [memB_of hm] at h; exact absurd h.1 (by simp), ndB_of h.2⟩
theorem mapOs_at (f : Nat → Nat) : ∀ (A : List AO) (i : Nat), (mapOs f A)[i]? = (A[i]?).map (mapO f)
  | [], i => by simp [mapOs]
  | o :: A, 0 => by simp [mapOs]
  | o :: A, i + 1 => by simp [mapOs, mapOs_at f A i]
theorem mapOs_len (f : Nat → Nat) : ∀ A : List AO, (mapOs f A).length = A.length
  | [] => rfl
  | o :: A => by simp [mapOs, mapOs_len f A]
theorem updA_len (f : Nat → Nat) : ∀ (p : List Nat) (A As : List AO), p.length ≤ As.length → (updA f A p As).length = A.length + (As.length - p.length)
  | [], A, As, _ => by simp [updA, mapOs_len]
  | q :: p, A, [], h => by simp at h
  | q :: p, A, o :: As, h => by
    unfold updA
    rw [updA_len f p _ As (by simpa using h)]
    simp
theorem updA_new (f : Nat → Nat) : ∀ (p : List Nat) (A As : List AO) (i : Nat), p.length ≤ As.length → (updA f A p As)[A.length + i]? = (As[p.length + i]?).map (mapO f)
  | [], A, As, i, _ => by unfold updA; rw [List.getElem?_append_right (by omega)]; simp [mapOs_at]
  | q :: p, A, [], i, h => by simp at h
  | q :: p, A, o :: As, i, h => by
    unfold updA
    have := updA_new f p (A.set q (mapO f o)) As i (by simpa using h)
    rw [List.length_set] at this
    rw [this, List.length_cons, show p.length + 1 + i = (p.length + i) + 1 by omega, List.getElem?_cons_succ]
theorem updA_other (f : Nat → Nat) : ∀ (p : List Nat) (A As : List AO) (t : Nat), t < A.length → t ∉ p → p.length ≤ As.length → (updA f A p As)[t]? = A[t]?
  | [], A, As, t, h, _, _ => by unfold updA; rw [List.getElem?_append_left h]
  | q :: p, A, [], t, _, _, h => by simp at h
  | q :: p, A, o :: As, t, h, hp, hl => by
    unfold updA
    simp only [List.mem_cons, not_or] at hp
    rw [updA_other f p _ As t (by simpa using h) hp.2 (by simpa using hl), List.getElem?_set_ne (fun e => hp.1 e.symm)]
theorem updA_in (f : Nat → Nat) : ∀ (p : List Nat) (A As : List AO) (i q : Nat), p[i]? = some q → q < A.length → p.Nodup → p.length ≤ As.length → (updA f A p As)[q]? = (As[i]?).map (mapO f)
  | [], A, As, i, q, h, _, _, _ => by simp at h
  | q0 :: p, A, [], i, q, _, _, _, h => by simp at h
  | q0 :: p, A, o :: As, 0, q, h, hq, hn, hl => by
    simp at h; subst h
    unfold updA
    rw [List.nodup_cons] at hn
    rw [updA_other f p _ As q0 (by simpa using hq) hn.1 (by simpa using hl), List.getElem?_set_self hq]; rfl
  | q0 :: p, A, o :: As, i + 1, q, h, hq, hn, hl => by
    unfold updA
    rw [List.nodup_cons] at hn
    rw [updA_in f p _ As i q (by simpa using h) (by simpa using hq) hn.2 (by simpa using hl)]; simp
theorem frA_at {f : Nat → Nat} {A : List AO} : ∀ {p : List Nat} {As : List AO}, FrA f A p As → p.length = As.length ∧ ∀ (i q : Nat), p[i]? = some q → ∃ o, As[i]? = some o ∧ A[q]? = some (mapO f o)
  | [], [], _ => ⟨rfl, fun i q h => by simp at h⟩
  | [], _ :: _, h => h.elim
  | _ :: _, [], h => h.elim
  | q0 :: p, o :: As, h => by
    obtain ⟨h1, h2⟩ := frA_at h.2
    refine ⟨by simp [h1], fun i q hi => ?_⟩
    cases i with
    | zero => simp at hi; subst hi; exact ⟨o, rfl, h.1.1⟩
    | succ i => obtain ⟨o', k1, k2⟩ := h2 i q (by simpa using hi); exact ⟨o', by simpa using k1, k2⟩
theorem okLB_mono {n m : Nat} (h : n = m) {l : List AV} (hl : okLB n l = true) : okLB m l = true := by subst h; exact hl
theorem frB_of {p : List Nat} {n : Nat} (h : frB p n = true) : (∀ q ∈ p, q < n) ∧ p.Nodup := by
  unfold frB at h
  simp only [Bool.and_eq_true] at h
  exact ⟨fun q hq => blt_of (List.all_eq_true.1 h.1 q hq), ndB_of h.2⟩
theorem nodup_inj {p : List Nat} (hn : p.Nodup) {i j q : Nat} (hi : p[i]? = some q) (hj : p[j]? = some q) : i = j := by
  have hi' := get_lt hi
  have hj' := get_lt hj
  rw [List.getElem?_eq_getElem hi'] at hi
  rw [List.getElem?_eq_getElem hj'] at hj
  exact (List.getElem_inj hn).1 ((Option.some.inj hi).trans (Option.some.inj hj).symm)
theorem acall_frame {P : Program} {G : List (Nat × Value)} {f : FuncId} {args : List AV} {A : List AO} {K : AV → List AO → Prop} (p : List Nat) (As : List AO) (args' : List AV)
    (hB : frB p A.length = true) (hA : FrA (nameOf p) A p As) (hok : okLB As.length args' = true ∧ As.all (fun o => match o with | .box vs => okLB As.length vs | .mapo _ vs => okLB As.length vs | _ => true) = true) (hargs : args = mapL (nameOf p) args')
    (h : ACall P G f args' As fun r As' => K (r.map (frN p A.length)) (updA (frN p A.length) A p As')) : ACall P G f args A K := by
  refine ⟨h.body, fun c H hcA hG vs hv => ?_⟩
  subst hcA
  obtain ⟨hpl, hpn⟩ := frB_of hB
  obtain ⟨hlen, hat⟩ := frA_at hA
  have nm : ∀ i q, p[i]? = some q → nameOf p i = q := fun i q hi => by unfold nameOf; rw [List.getD, hi]; rfl
  -- the callee's state
  let cs : Cx := { ρ := fun i => c.ρ (nameOf p i), A := As, X := fun b => c.X b ∨ ∃ t, c.live t ∧ t ∉ p ∧ c.ρ t = some b, w := c.w, G := c.G }
  have csA : ∀ (i : Nat) o, As[i]? = some o → ∃ q, p[i]? = some q ∧ nameOf p i = q ∧ c.A[q]? = some (mapO (nameOf p) o) := fun i o hi => by
    have hlt : i < p.length := by have := get_lt hi; omega
    obtain ⟨o', k1, k2⟩ := hat i p[i] (List.getElem?_eq_getElem hlt)
    rw [hi] at k1; cases k1
    exact ⟨p[i], List.getElem?_eq_getElem hlt, nm _ _ (List.getElem?_eq_getElem hlt), k2⟩
  have csLive : ∀ i, cs.live i → c.live (nameOf p i) ∧ nameOf p i ∈ p := fun i ⟨o, h1, h2⟩ => by
    obtain ⟨q, k1, k2, k3⟩ := csA i o h1
    exact ⟨⟨_, by rw [k2]; exact k3, mapO_live h2⟩, by rw [k2]; exact List.mem_of_getElem? k1⟩
  have csI : ∀ b, c.I b → cs.I b := fun b hb => by
    refine ⟨?_, fun i hi => hb.2 _ (csLive i hi).1⟩
    rintro (hx | ⟨t, h1, _, h3⟩)
    · exact hb.1 hx
    · exact hb.2 t h1 h3
  have B : Bw (nameOf p) c cs := ⟨csI, rfl, fun t o h1 h2 => by
    obtain ⟨q, k1, k2, k3⟩ := csA t o h1
    exact ⟨by rw [k2]; exact k3, rfl⟩, fun t h1 => by
    obtain ⟨q, k1, k2, k3⟩ := csA t _ h1
    rw [k2]; exact k3⟩
  have Hs : HR cs := by
    refine ⟨fun i b hi hb => ?_, fun i j b hi hj h1 h2 => ?_, fun i o hi => ?_, fun b hb => ?_, fun g v hgv => ?_⟩
    · obtain ⟨l1, l2⟩ := csLive i hi
      rintro (hx | ⟨t, h1, h2, h3⟩)
      · exact H.far _ b l1 hb hx
      · have := H.inj _ t b l1 h1 hb h3
        rw [this] at l2; exact h2 l2
    · have := H.inj _ _ b (csLive i hi).1 (csLive j hj).1 h1 h2
      obtain ⟨o, h3, _⟩ := hi
      obtain ⟨o', h4, _⟩ := hj
      obtain ⟨q, k1, k2, _⟩ := csA i o h3
      obtain ⟨q', j1, j2, _⟩ := csA j o' h4
      rw [k2, j2] at this
      subst this
      exact nodup_inj hpn k1 j1
    · obtain ⟨q, k1, k2, k3⟩ := csA i o hi
      have ho := H.obj q _ k3
      show ObjOk cs (c.ρ (nameOf p i)) o
      rw [k2]
      cases o with
      | dead => trivial
      | room => trivial
      | row e xs =>
        rcases ho with h | ⟨b, cells, et, h1, h2, h3⟩
        · exact .inl h
        · refine .inr ⟨b, cells, et, h1, h2, fun j hj => ?_⟩
          obtain ⟨ds, j1, j2⟩ := h3 j hj
          exact ⟨ds, bw_fz B j1, j2⟩
      | box us =>
        obtain ⟨b, cells, et, h1, h2, h3⟩ := ho
        refine ⟨b, cells, et, h1, h2, bw_relL B us cells ?_ h3⟩
        have := List.all_eq_true.1 hok.2 _ (List.mem_of_getElem? hi)
        exact this
      | mapo i us =>
        obtain ⟨b, ob, cells, h1, h2, h4, h3⟩ := ho
        refine ⟨b, ob, cells, h1, h2, h4, bw_relL B us cells ?_ h3⟩
        have := List.all_eq_true.1 hok.2 _ (List.mem_of_getElem? hi)
        exact this
    · rcases hb with hx | ⟨t, h1, _, h3⟩
      · exact H.old b hx
      · exact H.lt h1 h3
    · exact (H.glo g v hgv).mono fun b hb _ => ⟨csI b hb, rfl⟩
  have hvs : RelL cs args' vs := bw_relL B args' vs hok.1 (by rw [← hargs]; exact hv)
  refine (h.run cs Hs rfl hG vs hvs).mono fun e w' ⟨v, c1, r, he, hw, E1, H1, hr, hK⟩ => ?_
  have hk1 : p.length ≤ c1.A.length := by have := E1.le.len; rw [hlen]; exact this
  -- the caller's state
  let ix : Nat → Option Nat := fun t => p.idxOf? t
  have ixS : ∀ t i, ix t = some i → p[i]? = some t := fun t i h => by
    obtain ⟨hlt, he, _⟩ := List.idxOf?_eq_some_iff.1 h
    rw [List.getElem?_eq_getElem hlt, he]
  have ixN : ∀ t, ix t = none → t ∉ p := fun t h => List.idxOf?_eq_none_iff.1 h
  have ixI : ∀ (i t : Nat), p[i]? = some t → ix t = some i := fun i t h => by
    cases hx : ix t with
    | none => exact absurd (List.mem_of_getElem? h) (ixN t hx)
    | some j => rw [nodup_inj hpn (ixS t j hx) h]
  have hXs : ∀ b, c1.X b ↔ (c.X b ∨ ∃ t, c.live t ∧ t ∉ p ∧ c.ρ t = some b) := fun b => by rw [E1.X]
  let c2 : Cx := { ρ := fun t => match ix t with | some i => c1.ρ i | none => if t < c.A.length then c.ρ t else c1.ρ (p.length + (t - c.A.length)), A := updA (frN p c.A.length) c.A p c1.A, X := c.X, w := c1.w, G := c.G }
  have len2 : c2.A.length = c.A.length + (c1.A.length - p.length) := updA_len _ p c.A c1.A hk1
  have fN : ∀ i, i < c1.A.length → (∃ q, p[i]? = some q ∧ frN p c.A.length i = q) ∨ (p.length ≤ i ∧ frN p c.A.length i = c.A.length + (i - p.length)) := fun i _ => by
    unfold frN
    cases hp : p[i]? with
    | some q => exact .inl ⟨q, rfl, rfl⟩
    | none => exact .inr ⟨List.getElem?_eq_none_iff.1 hp, rfl⟩
  -- within to without
  have tok2 : ∀ (i : Nat) o, c1.A[i]? = some o → c2.A[frN p c.A.length i]? = some (mapO (frN p c.A.length) o) ∧ c2.ρ (frN p c.A.length i) = c1.ρ i := fun i o hi => by
    rcases fN i (get_lt hi) with ⟨q, h1, h2⟩ | ⟨h1, h2⟩
    · rw [h2]
      refine ⟨?_, ?_⟩
      · show (updA _ _ _ _)[q]? = _
        rw [updA_in _ p c.A c1.A i q h1 (hpl q (List.mem_of_getElem? h1)) hpn hk1, hi]; rfl
      · show (match ix q with | some i => c1.ρ i | none => _) = _
        rw [ixI i q h1]
    · rw [h2]
      refine ⟨?_, ?_⟩
      · show (updA _ _ _ _)[c.A.length + (i - p.length)]? = _
        rw [updA_new _ p c.A c1.A _ hk1, show p.length + (i - p.length) = i by omega, hi]; rfl
      · show (match ix (c.A.length + (i - p.length)) with | some i => c1.ρ i | none => _) = _
        cases hx : ix (c.A.length + (i - p.length)) with
        | some j => have := hpl _ (List.mem_of_getElem? (ixS _ _ hx)); omega
        | none =>
          simp only
          rw [if_neg (by omega), show p.length + (c.A.length + (i - p.length) - c.A.length) = i by omega]
  -- without: an old one, or one within
  have back : ∀ t, t < c2.A.length → (t < c.A.length ∧ t ∉ p ∧ c2.A[t]? = c.A[t]? ∧ c2.ρ t = c.ρ t) ∨ ∃ i o, c1.A[i]? = some o ∧ frN p c.A.length i = t ∧ c2.A[t]? = some (mapO (frN p c.A.length) o) ∧ c2.ρ t = c1.ρ i := fun t ht => by
    rw [len2] at ht
    have inn : ∀ i, i < c1.A.length → frN p c.A.length i = t → ∃ i o, c1.A[i]? = some o ∧ frN p c.A.length i = t ∧ c2.A[t]? = some (mapO (frN p c.A.length) o) ∧ c2.ρ t = c1.ρ i := fun i hi hf => by
      obtain ⟨k1, k2⟩ := tok2 i _ (List.getElem?_eq_getElem hi)
      rw [hf] at k1 k2
      exact ⟨i, _, List.getElem?_eq_getElem hi, hf, k1, k2⟩
    by_cases hlt : t < c.A.length
    · cases hx : ix t with
      | none =>
        have hnp := ixN t hx
        refine .inl ⟨hlt, hnp, updA_other _ p c.A c1.A t hlt hnp hk1, ?_⟩
        show (match ix t with | some i => c1.ρ i | none => _) = _
        rw [hx]; simp only; rw [if_pos hlt]
      | some i =>
        have hp := ixS t i hx
        exact .inr (inn i (by have := get_lt hp; omega) (by unfold frN; rw [hp]))
    · exact .inr (inn (p.length + (t - c.A.length)) (by omega) (by
        unfold frN
        rw [List.getElem?_eq_none (by omega)]
        simp only; omega))
  have fInj : ∀ (i j : Nat), i < c1.A.length → j < c1.A.length → frN p c.A.length i = frN p c.A.length j → i = j := fun i j hi hj h => by
    rcases fN i hi with ⟨q, h1, h2⟩ | ⟨h1, h2⟩ <;> rcases fN j hj with ⟨q', h3, h4⟩ | ⟨h3, h4⟩
    · rw [h2, h4] at h; subst h; exact nodup_inj hpn h1 h3
    · have := hpl _ (List.mem_of_getElem? h1); omega
    · have := hpl _ (List.mem_of_getElem? h3); omega
    · omega
  have live2 : ∀ t, c2.live t → (t < c.A.length ∧ t ∉ p ∧ c.live t ∧ c2.ρ t = c.ρ t) ∨ ∃ i, c1.live i ∧ frN p c.A.length i = t ∧ c2.ρ t = c1.ρ i := fun t ht => by
    have hlt := live_lt ht
    obtain ⟨o, h1, h2⟩ := ht
    rcases back t hlt with ⟨k1, k2, k3, k4⟩ | ⟨i, o', k1, k2, k3, k4⟩
    · rw [k3] at h1; exact .inl ⟨k1, k2, ⟨o, h1, h2⟩, k4⟩
    · rw [k3] at h1; cases h1
      exact .inr ⟨i, ⟨o', k1, by cases o' <;> first | rfl | cases h2⟩, k2, k4⟩
  have I2 : ∀ b, c1.I b → c2.I b := fun b hb => by
    have hx := fun h => hb.1 ((hXs b).2 h)
    refine ⟨fun h => hx (.inl h), fun t ht he => ?_⟩
    rcases live2 t ht with ⟨k1, k2, k3, k4⟩ | ⟨i, k1, k2, k3⟩
    · rw [k4] at he; exact hx (.inr ⟨t, k3, k2, he⟩)
    · rw [k3] at he; exact hb.2 i k1 he
  have F : Fw (frN p c.A.length) c1 c2 := ⟨I2, rfl, fun i o hi => ⟨(tok2 i o hi).1, fun _ => (tok2 i o hi).2⟩⟩
  have E2 : Ext c c2 := by
    refine ⟨⟨fun b hb hlt => ?_, fun t ht => ?_, by rw [len2]; omega⟩, rfl, rfl, fun b hb => E1.far b (.inl hb), E1.st⟩
    · obtain ⟨k1, k2⟩ := E1.le.I b (csI b hb) hlt
      exact ⟨I2 b k1, k2⟩
    · unfold TokLe
      rcases back t (by rw [len2]; omega) with ⟨k1, k2, k3, k4⟩ | ⟨i, o, k1, k2, k3, k4⟩
      · rw [k3]
        cases ho : c.A[t]? with
        | none => rw [List.getElem?_eq_none_iff] at ho; omega
        | some o =>
          cases o with
          | dead => trivial
          | room => rfl
          | box us => exact .inl ⟨⟨us, rfl⟩, k4⟩
          | mapo i us => exact .inl ⟨⟨i, us, rfl, rfl⟩, k4⟩
          | row e xs =>
            refine .inl ⟨⟨xs, rfl⟩, k4, fun b cells et hb hh => ⟨cells, ?_, rfl⟩⟩
            rw [← hh]
            exact E1.far b (.inr ⟨t, ⟨_, ho, rfl⟩, k2, hb⟩)
      · rcases fN i (get_lt k1) with ⟨q, h1, h2⟩ | ⟨h1, h2⟩
        · have hqt : q = t := h2.symm.trans k2
          subst hqt
          have hi : i < As.length := by have := get_lt h1; omega
          have htok := E1.le.tok i hi
          unfold TokLe at htok
          rw [k1] at htok
          rw [k3]
          obtain ⟨o0, m1, m2⟩ := hat i q h1
          cases o with
          | dead => trivial
          | room =>
            have n1 : As[i]? = some .room := htok
            rw [m1] at n1; cases n1
            exact m2
          | row e xs =>
            simp only [mapO] at htok ⊢
            rcases htok with ⟨⟨xs0, n1⟩, n2, n3⟩ | n1
            rotate_left
            · have n1 : As[i]? = some .room := n1
              rw [m1] at n1; cases n1
              exact .inr m2
            have n1 : As[i]? = some (.row e xs0) := n1
            rw [m1] at n1; cases n1
            have n2 : c1.ρ i = c.ρ (nameOf p i) := n2
            rw [nm i q h1] at n2
            refine .inl ⟨⟨xs0, m2⟩, k4.trans n2, fun b cells et hb hh => n3 b cells et ?_ hh⟩
            show c.ρ (nameOf p i) = _
            rw [nm i q h1]; exact hb
          | box us =>
            simp only [mapO] at htok ⊢
            rcases htok with ⟨⟨us0, n1⟩, n2⟩ | ⟨e, xs0, n1⟩ | n1
            · have n1 : As[i]? = some (.box us0) := n1
              rw [m1] at n1; cases n1
              have n2 : c1.ρ i = c.ρ (nameOf p i) := n2
              rw [nm i q h1] at n2
              exact .inl ⟨⟨_, m2⟩, k4.trans n2⟩
            · have n1 : As[i]? = some (.row e xs0) := n1
              rw [m1] at n1; cases n1
              exact .inr (.inl ⟨e, xs0, m2⟩)
            · have n1 : As[i]? = some .room := n1
              rw [m1] at n1; cases n1
              exact .inr (.inr m2)
          | mapo mi us =>
            simp only [mapO] at htok ⊢
            rcases htok with ⟨⟨mj, us0, n1, nj⟩, n2⟩ | n1
            · have n1 : As[i]? = some (.mapo mj us0) := n1
              rw [m1] at n1; cases n1
              have n2 : c1.ρ i = c.ρ (nameOf p i) := n2
              rw [nm i q h1] at n2
              exact .inl ⟨⟨mj, _, m2, nj⟩, k4.trans n2⟩
            · have n1 : As[i]? = some .room := n1
              rw [m1] at n1; cases n1
              exact .inr m2
        · omega
  have H2 : HR c2 := by
    refine ⟨fun t b ht hb => ?_, fun t u b ht hu h1 h2 => ?_, fun t o ho => ?_, fun b hb => H1.old b ((hXs b).2 (.inl hb)), fun g v' hgv => ?_⟩
    · rcases live2 t ht with ⟨k1, k2, k3, k4⟩ | ⟨i, k1, k2, k3⟩
      · rw [k4] at hb; exact H.far t b k3 hb
      · rw [k3] at hb; exact fun hx => H1.far i b k1 hb ((hXs b).2 (.inl hx))
    · rcases live2 t ht with ⟨k1, k2, k3, k4⟩ | ⟨i, k1, k2, k3⟩ <;> rcases live2 u hu with ⟨j1, j2, j3, j4⟩ | ⟨j, j1, j2, j3⟩
      · rw [k4] at h1; rw [j4] at h2; exact H.inj t u b k3 j3 h1 h2
      · rw [k4] at h1; rw [j3] at h2
        exact absurd ((hXs b).2 (.inr ⟨t, k3, k2, h1⟩)) (H1.far j b j1 h2)
      · rw [k3] at h1; rw [j4] at h2
        exact absurd ((hXs b).2 (.inr ⟨u, j3, j2, h2⟩)) (H1.far i b k1 h1)
      · rw [k3] at h1; rw [j3] at h2
        rw [← k2, ← j2, H1.inj i j b k1 j1 h1 h2]
    · rcases back t (get_lt ho) with ⟨k1, k2, k3, k4⟩ | ⟨i, o', k1, k2, k3, k4⟩
      · rw [k3] at ho
        rw [k4]
        refine objOk_ext E2 (H.obj t o ho) (fun hl b hb => ?_)
        exact E1.far b (.inr ⟨t, ⟨o, ho, hl⟩, k2, hb⟩)
      · rw [k3] at ho; cases ho
        rw [k4]
        exact fw_obj F (H1.obj i o' k1)
    · exact (H.glo g v' hgv).mono E2.le.I
  exact ⟨v, c2, r.map (frN p c.A.length), he, hw, E2, H2, fw_rel F r v hr, hK⟩
/-! ### with nothing of one's own -/
mutual
theorem map_okB (f : Nat → Nat) : ∀ a : AV, a.okB 0 = true → a.map f = a
  | .fz _ _, _ => rfl
  | .fptr _ _, _ => rfl
  | .ref _ _ _, h => by simp [AV.okB, Nat.blt] at h
  | .nilSl, _ => rfl
  | .ptr _ _, h => by simp [AV.okB, Nat.blt] at h
  | .elt _ _ _, h => by simp [AV.okB, Nat.blt] at h
  | .glob _, _ => rfl
  | .agg l, h => by unfold AV.map; rw [mapL_okB f l h]
  | .tup l, h => by unfold AV.map; rw [mapL_okB f l h]
  | .fn _ l, h => by unfold AV.map; rw [mapL_okB f l h]
  | .ifc _ a, h => by unfold AV.map; rw [map_okB f a h]
  | .opt _ a, h => by unfold AV.map; rw [map_okB f a h]
  | .unk, _ => rfl
theorem mapL_okB (f : Nat → Nat) : ∀ l : List AV, okLB 0 l = true → mapL f l = l
  | [], _ => rfl
  | a :: l, h => by
    unfold okLB at h
    simp only [Bool.and_eq_true] at h
    unfold mapL
    rw [map_okB f a h.1, mapL_okB f l h.2]
end
theorem acall_frame0 {P : Program} {G : List (Nat × Value)} {f : FuncId} {args : List AV} {A : List AO} {K : AV → List AO → Prop} (hok : okLB 0 args = true)
    (h : ACall P G f args [] fun r As' => K (r.map (frN [] A.length)) (A ++ mapOs (frN [] A.length) As')) : ACall P G f args A K :=
  acall_frame [] [] args rfl trivial ⟨hok, rfl⟩ (mapL_okB _ _ hok).symm (h.mono fun r As' hk => by unfold updA; exact hk)
end Go.Ab
/-
  Arguments as data: for good, or for one call.
-/
namespace Go.Ab
open Go
/-! ### what leads nowhere -/
def Ty.flat : Ty → Bool
  | .list _ => false
  | .one a => a.flat
  | .pair a b => a.flat && b.flat
  | .arr _ e => e.flat
  | _ => true
mutual
def AV.flat : AV → Bool
  | .fz t _ => t.flat
  | .fptr _ _ => false
  | .agg l | .tup l | .fn _ l => flatL l
  | .ifc _ a | .opt _ a => a.flat
  | _ => true
def flatL : List AV → Bool
  | [] => true
  | a :: l => a.flat && flatL l
end
def AO.flat : AO → Bool
  | .row e _ => e.flat
  | .box vs => flatL vs
  | .dead => true
  | .room => true
  | .mapo _ vs => flatL vs
theorem FzC.flat {I I' : Nat → Prop} {w w' : World} : ∀ {t : Ty} {x : t.den} {vs : List Value}, FzC I w t x vs → t.flat = true → FzC I' w' t x vs
  | .int _, _, _, h, _ => h
  | .bool, _, _, h, _ => h
  | .str, _, _, h, _ => h
  | .flt _, _, _, h, _ => h
  | .raw, _, _, h, _ => h
  | .list _, _, _, _, hf => by cases hf
  | .one a, x, vs, h, hf => FzC.flat (t := a) h hf
  | .pair a b, x, vs, h, hf => by
    unfold Ty.flat at hf
    simp only [Bool.and_eq_true] at hf
    obtain ⟨l, r, e, h1, h2⟩ := h
    exact ⟨l, r, e, FzC.flat h1 hf.1, FzC.flat h2 hf.2⟩
  | .arr n e, x, vs, h, hf => by
    obtain ⟨hl, css, hn, he, hall⟩ := h
    exact ⟨hl, css, hn, he, fun i hi => FzC.flat (hall i hi) hf⟩
structure Fl (f : Nat → Nat) (c c2 : Cx) : Prop where
  w : c2.w = c.w
  tok : ∀ (t : Nat) o, c.A[t]? = some o → c2.A[f t]? = some (mapO f o) ∧ (o.live = true → c2.ρ (f t) = c.ρ t)
section
variable {f : Nat → Nat} {c c2 : Cx}
mutual
theorem fl_rel (F : Fl f c c2) : ∀ (a : AV) (v : Value), a.flat = true → Rel c a v → Rel c2 (a.map f) v
  | .fz t x, v, hf, h => by
    unfold AV.map; unfold AV.flat at hf; unfold Rel at *
    obtain ⟨cs, h1, h2⟩ := h
    exact ⟨cs, h1.flat hf, h2⟩
  | .fptr t x, v, hf, h => by cases hf
  | .ref tok off len, v, _, h => by
    unfold AV.map; unfold Rel at *
    cases ho : c.A[tok]? with
    | none => rw [ho] at h; exact h.elim
    | some o =>
      obtain ⟨k1, k2⟩ := F.tok tok o ho
      rw [ho] at h
      rw [k1]
      cases o with
      | dead => trivial
      | room => exact h
      | box vs => trivial
      | mapo i vs => trivial
      | row e xs =>
        have k2 := k2 rfl
        simp only [mapO] at h ⊢
        rw [k2, F.w]; exact h
  | .nilSl, v, _, h => by unfold AV.map; unfold Rel at *; exact h
  | .ptr tok off, v, _, h => by
    unfold AV.map; unfold Rel at *
    cases ho : c.A[tok]? with
    | none => rw [ho] at h; exact h.elim
    | some o =>
      obtain ⟨k1, k2⟩ := F.tok tok o ho
      rw [ho] at h
      rw [k1]
      cases o with
      | dead => trivial
      | room => exact h
      | row e xs => trivial
      | box vs =>
        have k2 := k2 rfl
        simp only [mapO] at h ⊢
        rw [k2]; exact h
      | mapo i vs =>
        have k2 := k2 rfl
        simp only [mapO] at h ⊢
        rw [k2]; exact h
  | .elt tok i off, v, _, h => by
    unfold AV.map; unfold Rel at *
    cases ho : c.A[tok]? with
    | none => rw [ho] at h; exact h.elim
    | some o =>
      obtain ⟨k1, k2⟩ := F.tok tok o ho
      rw [ho] at h
      rw [k1]
      cases o with
      | dead => trivial
      | room => exact h
      | box vs => trivial
      | mapo i vs => trivial
      | row e xs =>
        have k2 := k2 rfl
        simp only [mapO] at h ⊢
        rw [k2]; exact h
  | .glob g, v, _, h => by unfold AV.map; unfold Rel at *; exact h
  | .agg l, v, hf, h => by
    unfold AV.map; unfold AV.flat at hf; unfold Rel at *
    obtain ⟨vs, h1, h2⟩ := h
    exact ⟨vs, h1, fl_relL F l vs hf h2⟩
  | .tup l, v, hf, h => by
    unfold AV.map; unfold AV.flat at hf; unfold Rel at *
    obtain ⟨vs, h1, h2⟩ := h
    exact ⟨vs, h1, fl_relL F l vs hf h2⟩
  | .fn g l, v, hf, h => by
    unfold AV.map; unfold AV.flat at hf; unfold Rel at *
    obtain ⟨vs, h1, h2⟩ := h
    exact ⟨vs, h1, fl_relL F l vs hf h2⟩
  | .ifc t a, v, hf, h => by
    unfold AV.map; unfold AV.flat at hf; unfold Rel at *
    obtain ⟨u, h1, h2⟩ := h
    exact ⟨u, h1, fl_rel F a u hf h2⟩
  | .opt g a, v, hf, h => by
    unfold AV.map; unfold AV.flat at hf; unfold Rel at *
    exact ⟨fun hg => fl_rel F a v hf (h.1 hg), h.2⟩
  | .unk, v, _, _ => by unfold AV.map; unfold Rel; trivial
theorem fl_relL (F : Fl f c c2) : ∀ (l : List AV) (vs : List Value), flatL l = true → RelL c l vs → RelL c2 (mapL f l) vs
  | [], vs, _, h => by unfold mapL; exact h
  | a :: l, vs, hf, h => by
    unfold flatL at hf
    simp only [Bool.and_eq_true] at hf
    unfold mapL
    unfold RelL at *
    obtain ⟨v, r, e, h1, h2⟩ := h
    exact ⟨v, r, e, fl_rel F a v hf.1 h1, fl_relL F l r hf.2 h2⟩
end
theorem fl_obj (F : Fl f c c2) {r : Option Nat} {o : AO} (hf : o.flat = true) (h : ObjOk c r o) : ObjOk c2 r (mapO f o) := by
  cases o with
  | dead => trivial
  | room => trivial
  | row e xs =>
    rcases h with h | ⟨b, cs, et, h1, h2, h3⟩
    · exact .inl h
    · refine .inr ⟨b, cs, et, h1, by rw [F.w]; exact h2, fun i hi => ?_⟩
      obtain ⟨ds, k1, k2⟩ := h3 i hi
      exact ⟨ds, k1.flat hf, k2⟩
  | box vs =>
    obtain ⟨b, cs, et, h1, h2, h3⟩ := h
    exact ⟨b, cs, et, h1, by rw [F.w]; exact h2, fl_relL F vs cs hf h3⟩
  | mapo i vs =>
    obtain ⟨b, ob, us, h1, h2, h4, h3⟩ := h
    exact ⟨b, ob, us, h1, by rw [F.w]; exact h2, h4, fl_relL F vs us hf h3⟩
end
/-! ### arguments turned -/
inductive Cv where
  | keep
  | dat (t : Ty)
  | pt (t : Ty)
def aggB : AV → Bool
  | .agg _ => true
  | .fz t _ => t.isAgg
  | _ => false
def conv1 (A : List AO) (cv : Cv) (v : AV) : Option Prop × Option AV × List AO := match cv with
  | .keep => (none, some v, A)
  | .dat t => match bEq (aggB v) t.isAgg with
    | true => match toD A t v with
      | (C, some x, A') => (C, some (.fz t x), A')
      | (C, none, A') => (C, none, A')
    | false => (none, none, A)
  | .pt t => match v with
    | .ptr tok 0 => match A[tok]? with
      | some (.box vs) => match goodC A vs with
        | true => match frz (A.set tok .dead) vs with
          | (C, l, A') => match t.ofC l with
            | some x => (C, some (.fptr t x), A')
            | none => (C, none, A')
        | false => (none, none, A)
      | _ => (none, none, A)
    | _ => (none, none, A)
def conv (A : List AO) : List Cv → List AV → Option Prop × Option (List AV) × List AO
  | [], [] => (none, some [], A)
  | cv :: cvs, v :: vs => match conv1 A cv v with
    | (C, some v', A') => match conv A' cvs vs with
      | (C', some vs', A'') => (andC C C', some (v' :: vs'), A'')
      | (C', none, A'') => (C', none, A'')
    | (C, none, A') => (C, none, A')
  | _, _ => (none, none, A)
theorem rel_tok_ok {c : Cx} {tok off : Nat} {vs : List AV} {v : Value} (h0 : c.A[tok]? = some (.box vs)) (h : Rel c (.ptr tok off) v) : ∃ b, c.ρ tok = some b ∧ v = .pointer (some ⟨b, off, none⟩) := by
  unfold Rel at h; rw [h0] at h; exact h
theorem conv1_sound {c : Cx} (H : HR c) {cv : Cv} {a a' : AV} {v : Value} (hr : Rel c a v) (hC : Hold (conv1 c.A cv a).1) (hs : (conv1 c.A cv a).2.1 = some a') :
    ∃ c', Killed c c' ∧ Ext c c' ∧ HR c' ∧ c'.A = (conv1 c.A cv a).2.2 ∧ Rel c' a' v := by
  cases cv with
  | keep => cases hs; exact ⟨c, Killed.refl c, Ext.refl c, H, rfl, hr⟩
  | dat t =>
    unfold conv1 at *
    simp only at hC hs ⊢
    cases hb : bEq (aggB a) t.isAgg with
    | false => rw [hb] at hs; cases hs
    | true =>
    rw [hb] at hC hs
    simp only at hC hs ⊢
    have hb := bEq_of hb
    generalize hd : toD c.A t a = d at *
    obtain ⟨C, ox, A'⟩ := d
    cases ox with
    | none => cases hs
    | some x =>
      simp only at hC hs ⊢
      cases hs
      have hC1 : Hold (toD c.A t a).1 := by rw [hd]; exact hC
      obtain ⟨c', k1, k2, k3, k4, k5⟩ := toD_sound (t := t) (x := x) H hr hC1 (by rw [hd])
      rw [hd] at k4
      refine ⟨c', k1, k2, k3, k4, ?_⟩
      have hv := rel_fz_mk k5
      have hcells : valOf t v.cells.toList = v := by
        have hl := k5.len
        have single : ocell v = true → t.isAgg = false → valOf t v.cells.toList = v := fun ho ha => by
          unfold valOf; rw [if_neg (by simp [ha]), ocell_cells ho]; rfl
        have hg := toD_good hC1
        cases a with
        | agg vs =>
          unfold Rel at hr
          obtain ⟨us, rfl, _⟩ := hr
          unfold valOf; rw [← hb]; simp [aggB, Value.cells]
        | fz u y =>
          unfold Rel at hr
          obtain ⟨cs, h1, rfl⟩ := hr
          rw [valOf_cells h1]
          have hb : u.isAgg = t.isAgg := hb
          unfold valOf; rw [hb]
        | _ =>
          refine single ?_ hb.symm
          unfold goodC acells at hg
          simp only [List.all_cons, List.all_nil, Bool.and_true, Bool.and_eq_true] at hg
          exact one_ocell hg.1 hg.2 hr
      rw [← hcells]; exact hv
  | pt t =>
    unfold conv1 at *
    simp only at hC hs ⊢
    cases a <;> try (cases hs; done)
    rename_i tok off
    cases off with
    | succ o => cases hs
    | zero =>
    simp only at hC hs ⊢
    cases h0 : c.A[tok]? with
    | none => rw [h0] at hs; cases hs
    | some o =>
      rw [h0] at hC hs
      cases o <;> try (cases hs; done)
      rename_i vs
      simp only at hC hs ⊢
      cases hg : goodC c.A vs with
      | false => rw [hg] at hs; cases hs
      | true =>
        rw [hg] at hC hs
        simp only at hC hs ⊢
        obtain ⟨b, hb, rfl⟩ := rel_tok_ok h0 hr
        have hlive : c.live tok := ⟨_, h0, rfl⟩
        have ho := H.obj tok _ h0
        rw [hb] at ho
        obtain ⟨b', cs, et, hb', hh, hrel⟩ := ho
        cases hb'
        have Hk := hr_kill H tok
        have Ek := ext_kill c tok
        have hkA : (c.kill tok).A = c.A.set tok .dead := rfl
        generalize hd : frz (c.A.set tok .dead) vs = d at *
        obtain ⟨C, l, A'⟩ := d
        simp only at hC hs ⊢
        cases hx : t.ofC l with
        | none => rw [hx] at hs; cases hs
        | some x =>
          rw [hx] at hC hs
          simp only at hC hs ⊢
          cases hs
          obtain ⟨c', k1, k2, k3, k4, k5⟩ := frz_sound vs (c.kill tok) cs Hk (hrel.ext Ek) (by rw [hkA, hd]; exact hC)
          rw [hkA, hd] at k4 k5
          refine ⟨c', (killed_kill c tok (get_lt h0)).trans k1, Ek.trans k2, k3, k4, ?_⟩
          have hIk : (c.kill tok).I b := ⟨H.far tok b hlive hb, fun t ht he => (kill_live ht).1 (H.inj t tok b (kill_live ht).2 hlive he hb)⟩
          obtain ⟨j1, j2⟩ := k2.le.I b hIk (some_lt hh)
          have hf := ofC_sound t _ _ _ hx k5
          unfold Rel
          refine ⟨b, 0, cs, rfl, j1, heap_lt (some_lt hh) j2, hf, fun j hj => ?_⟩
          rw [cell_heap (w := c.w) j2]
          unfold World.cell?
          simp only [hh]
          simp [List.getElem?_eq_getElem hj]
theorem conv_sound : ∀ (cvs : List Cv) (l : List AV) (c : Cx) (l' : List AV) (vs : List Value), HR c → RelL c l vs → Hold (conv c.A cvs l).1 → (conv c.A cvs l).2.1 = some l' →
    ∃ c', Killed c c' ∧ Ext c c' ∧ HR c' ∧ c'.A = (conv c.A cvs l).2.2 ∧ RelL c' l' vs
  | [], [], c, l', vs, H, hr, _, hs => by cases hs; exact ⟨c, Killed.refl c, Ext.refl c, H, rfl, hr⟩
  | [], _ :: _, _, _, _, _, _, _, hs => by cases hs
  | _ :: _, [], _, _, _, _, _, _, hs => by cases hs
  | cv :: cvs, a :: l, c, l', vs, H, hr, hC, hs => by
    unfold RelL at hr
    obtain ⟨v, r, rfl, h1, h2⟩ := hr
    unfold conv at *
    generalize hd : conv1 c.A cv a = d at *
    obtain ⟨C, oa, A1⟩ := d
    cases oa with
    | none => cases hs
    | some a' =>
      simp only at hC hs ⊢
      generalize hd2 : conv A1 cvs l = d2 at *
      obtain ⟨C2, ol, A2⟩ := d2
      cases ol with
      | none => cases hs
      | some l2 =>
        simp only at hC hs ⊢
        cases hs
        obtain ⟨hC1, hC2⟩ := andC_of hC
        obtain ⟨c1, k1, k2, k3, k4, k5⟩ := conv1_sound H h1 (by rw [hd]; exact hC1) (by rw [hd])
        rw [hd] at k4
        have k4 : c1.A = A1 := k4
        obtain ⟨c2, j1, j2, j3, j4, j5⟩ := conv_sound cvs l c1 l2 r k3 (h2.ext k2) (by rw [k4, hd2]; exact hC2) (by rw [k4, hd2])
        rw [k4, hd2] at j4
        refine ⟨c2, k1.trans j1, k2.trans j2, j3, j4, ?_⟩
        unfold RelL
        exact ⟨v, r, rfl, k5.ext j2, j5⟩
/-- arguments turned for good -/
theorem acall_conv {P : Program} {G : List (Nat × Value)} {f : FuncId} {args : List AV} {A : List AO} {K : AV → List AO → Prop} (cvs : List Cv) (args' : List AV) (A' : List AO) (C : Option Prop) (he : conv A cvs args = (C, some args', A')) (hC : Hold C) (h : ACall P G f args' A' K) : ACall P G f args A K := by
  refine ⟨h.body, fun c H hA hG vs hv => ?_⟩
  subst hA
  obtain ⟨c', k1, k2, k3, k4, k5⟩ := conv_sound cvs args c args' vs H hv (by rw [he]; exact hC) (by rw [he])
  rw [he] at k4
  have := h.run c' k3 k4 (k2.G.trans hG) vs k5
  rw [k1.w] at this
  exact this.mono fun e w' ⟨v, c2, r, h1, h2, h3, h4, h5, h6⟩ => ⟨v, c2, r, h1, h2, k2.trans h3, h4, h5, h6⟩
/-! ### arguments turned for one call -/
def flatA : List AO → Bool
  | [] => true
  | o :: A => o.flat && flatA A
theorem flatA_at : ∀ {A : List AO}, flatA A = true → ∀ (i : Nat) o, A[i]? = some o → o.flat = true
  | [], _, i, o, h => by simp at h
  | p :: A, hf, i, o, h => by
    unfold flatA at hf
    simp only [Bool.and_eq_true] at hf
    cases i with
    | zero => simp at h; subst h; exact hf.1
    | succ i => exact flatA_at hf.2 i o (by simpa using h)
theorem acall_lend {P : Program} {G : List (Nat × Value)} {f : FuncId} {args : List AV} {A : List AO} {K : AV → List AO → Prop} (cvs : List Cv) (args' : List AV) (A' : List AO) (C : Option Prop) (he : conv A cvs args = (C, some args', A')) (hC : Hold C) (hok : okLB 0 args' = true)
    (h : ACall P G f args' [] fun r As' => (r.flat && flatA As') = true ∧ K (r.map (frN [] A.length)) (A ++ mapOs (frN [] A.length) As')) : ACall P G f args A K := by
  refine ⟨h.body, fun c H hcA hG vs hv => ?_⟩
  subst hcA
  obtain ⟨c1, k1, k2, k3, k4, k5⟩ := conv_sound cvs args c args' vs H hv (by rw [he]; exact hC) (by rw [he])
  -- the callee's state: it owns nothing
  let cs : Cx := { ρ := fun _ => none, A := [], X := fun b => c1.X b ∨ ∃ t, c1.live t ∧ c1.ρ t = some b, w := c1.w, G := c1.G }
  have csI : ∀ b, c1.I b ↔ cs.I b := fun b => by
    constructor
    · intro hb
      refine ⟨?_, fun i hi => by obtain ⟨o, h1, _⟩ := hi; simp [cs] at h1⟩
      rintro (hx | ⟨t, h1, h2⟩)
      · exact hb.1 hx
      · exact hb.2 t h1 h2
    · intro hb
      exact ⟨fun hx => hb.1 (.inl hx), fun t ht he => hb.1 (.inr ⟨t, ht, he⟩)⟩
  have B : Bw (nameOf []) c1 cs := ⟨fun b hb => (csI b).1 hb, rfl, fun t o h1 _ => by simp [cs] at h1, fun t h1 => by simp [cs] at h1⟩
  have Hs : HR cs := by
    refine ⟨fun i b hi _ => ?_, fun i j b hi => ?_, fun i o hi => ?_, fun b hb => ?_, fun g v hgv => ?_⟩
    · obtain ⟨o, h1, _⟩ := hi; simp [cs] at h1
    · obtain ⟨o, h1, _⟩ := hi; simp [cs] at h1
    · simp [cs] at hi
    · rcases hb with hx | ⟨t, h1, h2⟩
      · exact k3.old b hx
      · exact k3.lt h1 h2
    · exact (k3.glo g v hgv).mono fun b hb _ => ⟨(csI b).1 hb, rfl⟩
  have hvs : RelL cs args' vs := bw_relL B args' vs hok (by rw [mapL_okB _ _ hok]; exact k5)
  have hrun := h.run cs Hs rfl (k2.G.trans hG) vs hvs
  rw [show cs.w = c.w from k1.w] at hrun
  refine hrun.mono fun e w' ⟨v, c2, r, h1, h2, E2, H2, hr, hfl, hK⟩ => ?_
  simp only [Bool.and_eq_true] at hfl
  have hX2 : ∀ b, c2.X b ↔ (c1.X b ∨ ∃ t, c1.live t ∧ c1.ρ t = some b) := fun b => by rw [E2.X]
  -- every object's block is as it was
  have same : ∀ t b, c.live t → c.ρ t = some b → c2.w.heap[b]? = c.w.heap[b]? ∧ ∀ i, c2.live i → c2.ρ i ≠ some b := fun t b ht hb => by
    have hbl := H.lt ht hb
    obtain ⟨o, ho, hol⟩ := ht
    have hw : cs.w.heap[b]? = c.w.heap[b]? := by rw [show cs.w = c.w from k1.w]
    rcases k1.A t with hA | hA
    · have hl1 : c1.live t := ⟨o, by rw [hA]; exact ho, hol⟩
      have hx : cs.X b := .inr ⟨t, hl1, by rw [k1.ρ]; exact hb⟩
      exact ⟨(E2.far b hx).trans hw, fun i hi he => H2.far i b hi he (by rw [E2.X]; exact hx)⟩
    · have hI1 : c1.I b := by
        refine ⟨by rw [k2.X]; exact H.far t b ⟨o, ho, hol⟩ hb, fun u hu he => ?_⟩
        rw [k1.ρ] at he
        have hu' : c.live u := by
          obtain ⟨q, q1, q2⟩ := hu
          rcases k1.A u with h | h
          · exact ⟨q, by rw [← h]; exact q1, q2⟩
          · rw [h] at q1; cases q1; cases q2
        have := H.inj u t b hu' ⟨o, ho, hol⟩ he hb
        subst this
        obtain ⟨q, q1, q2⟩ := hu
        rw [hA] at q1; cases q1; cases q2
      obtain ⟨j1, j2⟩ := E2.le.I b ((csI b).1 hI1) (by rw [show cs.w = c.w from k1.w]; exact hbl)
      exact ⟨j2.trans hw, fun i hi => j1.2 i hi⟩
  let c3 : Cx := { ρ := fun t => if t < c.A.length then c.ρ t else c2.ρ (t - c.A.length), A := c.A ++ mapOs (frN [] c.A.length) c2.A, X := c.X, w := c2.w, G := c.G }
  have fN : ∀ i, frN [] c.A.length i = c.A.length + i := fun i => by unfold frN; simp
  have oldA : ∀ t, t < c.A.length → c3.A[t]? = c.A[t]? := fun t ht => by show (c.A ++ _)[t]? = _; rw [List.getElem?_append_left ht]
  have oldρ : ∀ t, t < c.A.length → c3.ρ t = c.ρ t := fun t ht => by show (if _ then _ else _) = _; rw [if_pos ht]
  have newA : ∀ i, c3.A[c.A.length + i]? = (c2.A[i]?).map (mapO (frN [] c.A.length)) := fun i => by
    show (c.A ++ _)[_]? = _
    rw [List.getElem?_append_right (by omega), mapOs_at]
    congr 2; omega
  have newρ : ∀ i, c3.ρ (c.A.length + i) = c2.ρ i := fun i => by
    show (if _ then _ else _) = _
    rw [if_neg (by omega), show c.A.length + i - c.A.length = i by omega]
  have split : ∀ t, c3.live t → (t < c.A.length ∧ c.live t) ∨ ∃ i, t = c.A.length + i ∧ c2.live i := fun t ⟨o, h1, h2⟩ => by
    by_cases ht : t < c.A.length
    · rw [oldA t ht] at h1; exact .inl ⟨ht, o, h1, h2⟩
    · rw [show t = c.A.length + (t - c.A.length) by omega, newA] at h1
      cases hq : c2.A[t - c.A.length]? with
      | none => rw [hq] at h1; cases h1
      | some q =>
        rw [hq] at h1; cases h1
        exact .inr ⟨t - c.A.length, by omega, q, hq, by cases q <;> first | rfl | cases h2⟩
  have I3 : ∀ b, c.I b → b < c.w.heap.size → c3.I b ∧ c2.w.heap[b]? = c.w.heap[b]? := fun b hb hlt => by
    have hb1 := (k2.le.I b hb hlt).1
    obtain ⟨j1, j2⟩ := E2.le.I b ((csI b).1 hb1) (by rw [show cs.w = c.w from k1.w]; exact hlt)
    refine ⟨⟨hb.1, fun t ht he => ?_⟩, j2.trans (by rw [show cs.w = c.w from k1.w])⟩
    rcases split t ht with ⟨l1, l2⟩ | ⟨i, rfl, l2⟩
    · rw [oldρ t l1] at he; exact hb.2 t l2 he
    · rw [newρ] at he; exact j1.2 i l2 he
  have Fl3 : Fl (frN [] c.A.length) c2 c3 := ⟨rfl, fun t o ht => by rw [fN, newA, newρ, ht]; exact ⟨rfl, fun _ => rfl⟩⟩
  have E3 : Ext c c3 := by
    refine ⟨⟨I3, fun t ht => ?_, by show _ ≤ (c.A ++ _).length; simp⟩, rfl, rfl, fun b hb => ?_, ?_⟩
    · have := TokLe.refl ht
      unfold TokLe at *
      rw [oldA t ht, oldρ t ht]
      cases hA : c.A[t]? with
      | none => rw [hA] at this; exact this
      | some o =>
        rw [hA] at this
        cases o with
        | dead => trivial
        | room => exact this
        | box us => exact this
        | mapo i us => exact this
        | row el xs =>
          simp only at this ⊢
          rcases this with this | this
          rotate_left
          · exact .inr this
          refine .inl ⟨this.1, by simp, fun b cells et hb hh => ⟨cells, ?_, rfl⟩⟩
          rw [← hh]; exact (same t b ⟨_, hA, rfl⟩ hb).1
    · have := E2.far b (.inl (by rw [k2.X]; exact hb))
      exact this.trans (by rw [show cs.w = c.w from k1.w])
    · have := E2.st
      rw [show cs.w = c.w from k1.w] at this; exact this
  have H3 : HR c3 := by
    refine ⟨fun t b ht hb => ?_, fun t u b ht hu g1 g2 => ?_, fun t o ho => ?_, fun b hb => ?_, fun g v' hgv => ?_⟩
    · rcases split t ht with ⟨l1, l2⟩ | ⟨i, rfl, l2⟩
      · rw [oldρ t l1] at hb; exact H.far t b l2 hb
      · rw [newρ] at hb
        exact fun hx => H2.far i b l2 hb ((hX2 b).2 (.inl (by rw [k2.X]; exact hx)))
    · rcases split t ht with ⟨l1, l2⟩ | ⟨i, rfl, l2⟩ <;> rcases split u hu with ⟨m1, m2⟩ | ⟨j, rfl, m2⟩
      · rw [oldρ t l1] at g1; rw [oldρ u m1] at g2; exact H.inj t u b l2 m2 g1 g2
      · rw [oldρ t l1] at g1; rw [newρ] at g2; exact absurd g2 ((same t b l2 g1).2 j m2)
      · rw [oldρ u m1] at g2; rw [newρ] at g1; exact absurd g1 ((same u b m2 g2).2 i l2)
      · rw [newρ] at g1 g2; rw [H2.inj i j b l2 m2 g1 g2]
    · by_cases ht : t < c.A.length
      · rw [oldA t ht] at ho
        rw [oldρ t ht]
        exact objOk_ext E3 (H.obj t o ho) (fun hl b hb => (same t b ⟨o, ho, hl⟩ hb).1)
      · rw [show t = c.A.length + (t - c.A.length) by omega, newA] at ho
        rw [show t = c.A.length + (t - c.A.length) by omega, newρ]
        cases hq : c2.A[t - c.A.length]? with
        | none => rw [hq] at ho; cases ho
        | some q =>
          rw [hq] at ho; cases ho
          exact fl_obj Fl3 (flatA_at hfl.2 _ _ hq) (H2.obj _ _ hq)
    · exact H2.old b ((hX2 b).2 (.inl (by rw [k2.X]; exact hb)))
    · exact (H.glo g v' hgv).mono I3
  exact ⟨v, c3, r.map (frN [] c.A.length), h1, h2, E3, H3, fl_rel Fl3 r v hfl.1 hr, hK⟩
end Go.Ab
/-
  Own objects turned to data for good: at a function's end, within it.
-/
namespace Go.Ab
open Go
@[simp] theorem wantB_true (b : Bool) : wantB true b = b := rfl
@[simp] theorem wantB_false (b : Bool) : wantB false b = !b := rfl
theorem REnt.conv {n0 : Nat} {l l' : List AV} {A A' : List AO} (cvs : List Cv) (C : Option Prop) (he : conv A cvs l = (C, some l', A')) (hC : Hold C) : REnt n0 (.tup l) A (.tup l') A' := fun c H hA hn v hv => by
  subst hA
  unfold Rel at hv
  obtain ⟨vs, h1, h2⟩ := hv
  obtain ⟨c', k1, k2, k3, k4, k5⟩ := conv_sound cvs l c l' _ H h2 (by rw [he]; exact hC) (by rw [he])
  rw [he] at k4
  refine ⟨c', k1.w, k2.toN' hn, k3, k4, ?_⟩
  unfold Rel
  exact ⟨vs, h1, k5⟩
theorem REnt.conv1 {n0 : Nat} {a a' : AV} {A A' : List AO} (cv : Cv) (C : Option Prop) (he : Ab.conv1 A cv a = (C, some a', A')) (hC : Hold C) : REnt n0 a A a' A' := fun c H hA hn v hv => by
  subst hA
  obtain ⟨c', k1, k2, k3, k4, k5⟩ := conv1_sound (cv := cv) H hv (by rw [he]; exact hC) (by rw [he])
  rw [he] at k4
  exact ⟨c', k1.w, k2.toN' hn, k3, k4, k5⟩
theorem Ent.conv {n0 : Nat} {T : List (Nat × AV)} {A : List AO} (d : Nat) (cv : Cv) (C : Option Prop) {a' : AV} {A' : List AO} (he : Ab.conv1 A cv (lk T d) = (C, some a', A')) (hC : Hold C) : Ent n0 ⟨T, A⟩ ⟨(d, a') :: T, A'⟩ := fun c H hA hn tmps ht => by
  have hA : c.A = A := hA
  subst hA
  obtain ⟨c', k1, k2, k3, k4, k5⟩ := conv1_sound (cv := cv) H (ht d) (by rw [he]; exact hC) (by rw [he])
  rw [he] at k4
  refine ⟨c', k1.w, k2.toN' hn, k3, k4, fun n => ?_⟩
  show Rel _ (lk ((d, _) :: T) n) _
  unfold lk
  by_cases hd : d = n
  · subst hd; rw [if_pos rfl]; exact k5
  · rw [if_neg hd]; exact (ht n).ext k2
end Go.Ab
/-
  A box's nil slice as a slice of one's own.
-/
namespace Go.Ab
open Go
def Cx.rebox (c : Cx) (tok : Nat) (vs : List AV) : Cx := { c with A := c.A.set tok (.box vs) }
theorem rebox_sound {c : Cx} (H : HR c) {tok : Nat} {vs vs' : List AV} (h0 : c.A[tok]? = some (.box vs)) (hr : ∀ b cs et, c.ρ tok = some b → c.w.heap[b]? = some (.cells (List.toArray cs) et (0, 0)) → RelL c vs cs → RelL c vs' cs) : Ext c (c.rebox tok vs') ∧ HR (c.rebox tok vs') := by
  have hlt := get_lt h0
  have new : (c.rebox tok vs').A[tok]? = some (.box vs') := by show (c.A.set tok _)[tok]? = _; rw [List.getElem?_set_self hlt]
  have old : ∀ t, t ≠ tok → (c.rebox tok vs').A[t]? = c.A[t]? := fun t h => by show (c.A.set tok _)[t]? = _; rw [List.getElem?_set_ne (by omega)]
  have hl : ∀ t, (c.rebox tok vs').live t → c.live t := by
    intro t ⟨o, h1, h2⟩
    by_cases h : t = tok
    · subst h; exact ⟨_, h0, rfl⟩
    · rw [old t h] at h1; exact ⟨o, h1, h2⟩
  have hI : ∀ b, c.I b → (c.rebox tok vs').I b := fun b h => ⟨h.1, fun t ht => h.2 t (hl t ht)⟩
  have E : Ext c (c.rebox tok vs') := by
    refine ⟨⟨fun b h _ => ⟨hI b h, rfl⟩, fun t ht => ?_, by show _ ≤ (c.A.set tok _).length; simp⟩, rfl, rfl, fun b _ => rfl, ⟨rfl, rfl, rfl⟩⟩
    by_cases h : t = tok
    · subst h; unfold TokLe; rw [new]; exact .inl ⟨⟨_, h0⟩, rfl⟩
    · have := TokLe.refl ht
      unfold TokLe at *
      rw [old t h]; exact this
  refine ⟨E, ⟨fun t b ht hb => H.far t b (hl t ht) hb, fun t u b ht hu h1 h2 => H.inj t u b (hl t ht) (hl u hu) h1 h2, fun t o h => ?_, H.old, fun g v h => ?_⟩⟩
  · by_cases ht : t = tok
    · subst ht
      rw [new] at h; cases h
      obtain ⟨b, cs, et, h1, h2, h3⟩ := H.obj t _ h0
      exact ⟨b, cs, et, h1, h2, (hr b cs et h1 h2 h3).ext E⟩
    · rw [old t ht] at h
      exact objOk_ext E (H.obj t o h) (fun _ _ _ => rfl)
  · exact (H.glo g v h).mono fun b hb _ => ⟨hI b hb, rfl⟩
theorem Ent.nilBox {n0 : Nat} {T : List (Nat × AV)} {A : List AO} {vs : List AV} (tok i : Nat) (e : Ty) (h0 : A[tok]? = some (.box vs)) (hi : vs[i]? = some .nilSl) :
    Ent n0 ⟨T, A⟩ ⟨T, List.set (A ++ [AO.row e []]) tok (.box (vs.set i (.ref A.length 0 0)))⟩ := fun c H hA hn tmps ht => by
  have hA : c.A = A := hA
  subst hA
  obtain ⟨k1, k2, _⟩ := nilRow_sound (p := none) H e
  have h1 : (c.nilRow e).A[tok]? = some (.box vs) := by show (c.A ++ [AO.row e []])[tok]? = _; rw [List.getElem?_append_left (get_lt h0)]; exact h0
  obtain ⟨j1, j2⟩ := rebox_sound (vs' := vs.set i (.ref c.A.length 0 0)) k2 h1 (fun _ cs _ _ _ hcs => by
    refine RelL.of_get _ _ (by rw [hcs.length, List.length_set]) fun j a v ha hv => ?_
    by_cases hij : j = i
    · subst hij
      rw [List.getElem?_set_self (get_lt hi)] at ha
      cases ha
      obtain ⟨u, hu, hr⟩ := RelL.get _ _ j _ hcs hi
      rw [hv] at hu; cases hu
      unfold Rel at hr
      obtain ⟨p, hr⟩ := hr
      rw [hr]; exact (nilRow_sound H e).2.2
    · rw [List.getElem?_set_ne (by omega)] at ha
      obtain ⟨u, hu, hr⟩ := RelL.get _ _ j _ hcs ha
      rw [hv] at hu; cases hu
      exact hr)
  exact ⟨(c.nilRow e).rebox tok (vs.set i (.ref c.A.length 0 0)), rfl, (k1.trans j1).toN' hn, j2, rfl, (fun n => (ht n).ext (k1.trans j1))⟩
/-- own slices within a box, as data for good -/
theorem Ent.datBox {n0 : Nat} {T : List (Nat × AV)} {A : List AO} {vs l : List AV} {A' : List AO} {C : Option Prop} (tok : Nat) (h0 : A[tok]? = some (.box vs)) (he : frz A vs = (C, l, A')) (hC : Hold C) (h1 : A'[tok]? = some (.box vs)) :
    Ent n0 ⟨T, A⟩ ⟨T, List.set A' tok (.box l)⟩ := fun c H hA hn tmps ht => by
  have hA : c.A = A := hA
  subst hA
  obtain ⟨b, cs, et, g1, g2, g3⟩ := H.obj tok _ h0
  obtain ⟨c', k1, k2, k3, k4, k5⟩ := frz_sound vs c cs H g3 (by rw [he]; exact hC)
  rw [he] at k4 k5
  have hA' : c'.A = A' := k4
  obtain ⟨j1, j2⟩ := rebox_sound (tok := tok) (vs' := l) k3 (by rw [hA']; exact h1) (fun b' cs' et' hb hh _ => by
    rw [k1.ρ, g1] at hb; cases hb
    rw [k1.w, g2] at hh
    have : cs = cs' := by
      have := Option.some.inj hh
      injection this with this
      exact congrArg Array.toList this
    rw [← this]; exact k5)
  refine ⟨c'.rebox tok l, k1.w, (k2.trans j1).toN' hn, j2, ?_, (fun n => (ht n).ext (k2.trans j1))⟩
  show c'.A.set tok _ = _
  rw [hA']
end Go.Ab
/-
  Regions that draw their order: the pairs that must be looked at, computed.
-/
namespace Go.Ab
open Go
def pairsAt (M E : List Nat) (i : Nat) : List Nat → List (Nat × Nat)
  | [] => []
  | k :: ks => match okK M i k E 0 && !Nat.beq k (cntE E i) with
    | true => (i, k) :: pairsAt M E i ks
    | false => pairsAt M E i ks
def pairsOf (M E : List Nat) (ks : List Nat) : List Oper → Nat → List (Nat × Nat)
  | [], _ => []
  | o :: os, i => match isEff o.op with
    | true => pairsOf M E ks os (i + 1)
    | false => match memless o.op with
      | true => pairsOf M E ks os (i + 1)
      | false => pairsAt M E i ks ++ pairsOf M E ks os (i + 1)
def autoX (L : List Oper) : List (Nat × Nat) := pairsOf (amask L []) (effsOf L 0) (List.range ((effsOf L 0).length + 1)) L 0
def drawnQ (P : Program) (D : Tab) (G : List (Nat × Value)) (L : List Oper) (A : List AO) (Q : List (Nat × AV) → List AO → Prop) (X : List (Nat × Nat)) (tr : List Rc) (T' : List (Nat × AV)) (A' : List AO) : Prop := match X with
  | [] => Q T' A'
  | X => extras P D G L tr (asL tr A) X ∧ Q T' A'
theorem exEff {p q : AV → List AO → Prop} {v0 : AV} {A0 : List AO} (h1 : p v0 A0) (h2 : q v0 A0) : ∃ v0 A0, p v0 A0 ∧ q v0 A0 := ⟨v0, A0, h1, h2⟩
theorem aRegion_auto {P : Program} {D : Tab} {G : List (Nat × Value)} {N : Nat} {L : List Oper} {T : List (Nat × AV)} {A : List AO} {Q : List (Nat × AV) → List AO → Prop} (h1 : drawB L (autoX L) = true)
    (h2 : aDraw P D G N L L T A [] (drawnQ P D G L A Q (autoX L))) : aRegion P D G N L T A Q := .inl ⟨autoX L, h1, h2⟩
/-- the same, the pairs written out -/
theorem aRegion_lit {P : Program} {D : Tab} {G : List (Nat × Value)} {N : Nat} {L : List Oper} {T : List (Nat × AV)} {A : List AO} {Q : List (Nat × AV) → List AO → Prop} (X : List (Nat × Nat)) (h1 : drawB L X = true)
    (h2 : aDraw P D G N L L T A [] (drawnQ P D G L A Q X)) : aRegion P D G N L T A Q := .inl ⟨X, h1, h2⟩
/-- .. whose effects have no order: what there is when some of them have come (S: the bits of the effects that have) -/
theorem aRegion_open {P : Program} {D : Tab} {G : List (Nat × Value)} {N : Nat} {L : List Oper} {T : List (Nat × AV)} {A : List AO} {Q : List (Nat × AV) → List AO → Prop} (n : Nat) (h1 : drawM2 L (amask L []) (effsOf L 0) = true)
    (h2 : aDraw2 P D G N L L T (A ++ nilRows n) [] fun tr T' A' => ∃ S, lkS 0 S = some (A ++ nilRows n) ∧ lkS (fullM (effsOf L 0)) S = some A' ∧ stAll P D G L (amask L []) (effsOf L 0) S tr S ∧ Q T' A') : aRegion P D G N L T A Q := .inr ⟨h1, n, h2⟩
theorem aRegion_openL {P : Program} {D : Tab} {G : List (Nat × Value)} {N : Nat} {L : List Oper} {T : List (Nat × AV)} {A : List AO} {Q : List (Nat × AV) → List AO → Prop} (M E : List Nat) (n : Nat) (h0 : amask L [] = M ∧ effsOf L 0 = E) (h1 : drawM2 L M E = true)
    (h2 : aDraw2 P D G N L L T (A ++ nilRows n) [] fun tr T' A' => ∃ S, lkS 0 S = some (A ++ nilRows n) ∧ lkS (fullM E) S = some A' ∧ stAll P D G L M E S tr S ∧ Q T' A') : aRegion P D G N L T A Q := by
  obtain ⟨rfl, rfl⟩ := h0
  exact .inr ⟨h1, n, h2⟩
theorem cons_eq {α : Type} {a b : α} {l m : List α} (h : a = b) (h' : l = m) : a :: l = b :: m := by subst h; subst h'; rfl
theorem eff_is {p : AV → List AO → Prop} (v0 : AV) (A0 : List AO) (h : p v0 A0) : ∃ v0 A0, p v0 A0 := ⟨v0, A0, h⟩
theorem view_of {m : Nat} {v v' : AV} {A' A'' : List AO} (p : List Nat) (h1 : viewB p m A' A'' = true) (h2 : RenA p A' A''.length 0 A'') (h3 : v = v'.map (nameOf p)) (h4 : v'.okB A''.length = true) : View m v A' v' A'' := ⟨p, h1, h2, h3, h4⟩
/-- arguments written otherwise -/
theorem acall_arg {P : Program} {G : List (Nat × Value)} {f : FuncId} {args args' : List AV} {A : List AO} {K : AV → List AO → Prop} (h : ACall P G f args' A K) (he : args' = args) : ACall P G f args A K := he ▸ h
end Go.Ab
/-
  What a claim hands over, read as data of a type.
-/
namespace Go.Ab
open Go Go.RowKit
def tflt (D : Tab) (t : TypeId) : Option FloatKind := match tlook D t with
  | some i => match i.d with
    | .flt k => some k
    | _ => none
  | none => none
theorem of_tflt {P : Program} {D : Tab} (hD : TabOk P D) {t : TypeId} {k : FloatKind} (h : tflt D t = some k) : P.underlying t = some (.float k) := by
  unfold tflt at h
  cases hi : tlook D t with
  | none => rw [hi] at h; cases h
  | some x =>
    rw [hi] at h
    obtain ⟨i, d, _, h2, _, h4, _⟩ := tlook_info hD hi
    simp only at h
    cases hd : x.d <;> rw [hd] at h h4 <;> try (cases h; done)
    cases d <;> try (cases h4; done)
    simp only [tiIs, decide_eq_true_eq] at h4
    cases h; rw [h2, h4]
def opB (D : Tab) : Nat → TypeId → Ty → Bool
  | 0, _, _ => false
  | n + 1, t, ty => Nat.beq (tsz D t) ty.size && Nat.blt 0 ty.size && match ty with
    | .int k => decide (tkind D t = some k)
    | .bool => tbool D t
    | .str => tstr D t
    | .flt k => decide (tflt D t = some k)
    | .list e => match telem D t with
      | some e' => opB D n e' e
      | none => false
    | .one a => match tlook D t with
      | some ⟨_, .struct [(o, t0)], _, _, _, _⟩ => Nat.beq o 0 && opB D n t0 a
      | _ => false
    | .pair a b => match tlook D t with
      | some ⟨_, .struct fs, _, _, _, _⟩ => opFs fs (.pair a b) 0 (opB D n)
      | _ => false
    | _ => false
where
  opFs : List (Nat × TypeId) → Ty → Nat → (TypeId → Ty → Bool) → Bool
    | [(o, t)], ty, k, p => Nat.beq o k && p t ty
    | (o, t) :: y :: fs, .pair a b, k, p => Nat.beq o k && p t a && opFs (y :: fs) b (k + a.size) p
    | _, _, _, _ => false
/-- what numbers of a kind, what lengths there are -/
def Ty.inB : (t : Ty) → t.den → Prop
  | .int k, x => k.min ≤ x ∧ x ≤ k.max
  | .str, x => x.size ≤ maxLen
  | .flt k, x => (Lit.float k x).wf = true
  | .one a, x => a.inB x
  | .pair a b, x => a.inB x.1 ∧ b.inB x.2
  | .list e, x => List.length x ≤ maxLen ∧ ∀ i (h : i < List.length x), e.inB x[i]
  | _, _ => True
section
variable {H : Type} {enc : TypeId × Value → H} {P : Program} {w : World} {base : Nat} {spare : Nat → Bool} {held : Bool}
theorem trod_flt {fuel : Nat} {t : TypeId} {k : FloatKind} {cs : List Value} {x : DataW H × List MemPlace} (ht : P.underlying t = some (.float k)) (h : DataW.trod enc P w base spare held fuel t cs = some x) : ∃ b, cs = [.float k b] ∧ (Lit.float k b).wf = true := by
  cases fuel with
  | zero => simp [DataW.trod] at h
  | succ n =>
    unfold DataW.trod at h
    rw [ht] at h
    split at h <;> simp_all
theorem cellsOf_tsz {D : Tab} (hD : TabOk P D) {t : TypeId} {n : Nat} (h : tsz D t = n) (hn : 0 < n) : P.cellsOf t = n := by
  unfold tsz at h
  cases hi : tlook D t with
  | none => rw [hi] at h; simp at h; omega
  | some e =>
    rw [hi] at h
    obtain ⟨i, d, h1, _, h3, _⟩ := tlook_info hD hi
    unfold Program.cellsOf
    rw [h1]
    simp only [Option.map_some, Option.getD_some]
    rw [h3]; exact h
theorem opB_size {D : Tab} (hD : TabOk P D) {n : Nat} {t : TypeId} {ty : Ty} (h : opB D n t ty = true) : P.cellsOf t = ty.size ∧ 0 < ty.size := by
  cases n with
  | zero => cases h
  | succ n =>
    unfold opB at h
    simp only [Bool.and_eq_true] at h
    have h2 := blt_of h.1.2
    exact ⟨cellsOf_tsz hD (beq_eq h.1.1) h2, h2⟩
theorem of_tstruct {D : Tab} (hD : TabOk P D) {t : TypeId} {sz bt en : Nat} {l : List (Nat × Nat)} {z : List Z} {b : Bool} (h : tlook D t = some ⟨sz, .struct l, z, b, bt, en⟩) : ∃ fs : Array Field, P.underlying t = some (.struct fs) ∧ fs.toList.map (fun f => (f.offset, f.type)) = l := by
  obtain ⟨i, d, _, h2, _, h4, _⟩ := tlook_info hD h
  cases d <;> try (cases h4; done)
  rename_i fs
  simp only [tiIs, decide_eq_true_eq] at h4
  exact ⟨fs, h2, h4⟩
/-- the fields from one on -/
theorem open_fs {D : Tab} {n : Nat} {fuel : Nat} {cs : List Value} (ih : ∀ t ty, opB D n t ty = true → ∀ cs x, DataW.trod enc P w base spare held fuel t cs = some x → ∃ y : ty.den, FzC (fun _ => True) w ty y cs ∧ ty.inB y)
    (hsz : ∀ t ty, opB D n t ty = true → P.cellsOf t = ty.size) : ∀ (fs : List (Nat × TypeId)) (ty : Ty) (k : Nat), opB.opFs fs ty k (opB D n) = true → k + ty.size = cs.length →
    (∀ p ∈ fs, ∃ x, DataW.trod enc P w base spare held fuel p.2 ((cs.drop p.1).take (P.cellsOf p.2)) = some x) → ∃ y : ty.den, FzC (fun _ => True) w ty y (cs.drop k) ∧ ty.inB y
  | [], ty, k, h, _, _ => by unfold opB.opFs at h; cases h
  | [(o, t)], ty, k, h, hk, hall => by
    unfold opB.opFs at h
    simp only [Bool.and_eq_true] at h
    have ho := beq_eq h.1
    subst ho
    obtain ⟨x, hx⟩ := hall (o, t) (by simp)
    simp only at hx
    rw [hsz t ty h.2] at hx
    have hl : (cs.drop o).length = ty.size := by simp; omega
    rw [List.take_of_length_le (by omega)] at hx
    exact ih t ty h.2 _ x hx
  | (o, t) :: y :: fs, ty, k, h, hk, hall => by
    cases ty <;> try (unfold opB.opFs at h; cases h; done)
    rename_i a b
    unfold opB.opFs at h
    simp only [Bool.and_eq_true] at h
    obtain ⟨⟨ho, ha⟩, hr⟩ := h
    have ho := beq_eq ho
    subst ho
    obtain ⟨x, hx⟩ := hall (o, t) (by simp)
    simp only at hx
    rw [hsz t a ha] at hx
    obtain ⟨u, hu, hub⟩ := ih t a ha _ x hx
    have hk' : o + (a.size + b.size) = cs.length := hk
    obtain ⟨v, hv, hvb⟩ := open_fs ih hsz (y :: fs) b (o + a.size) hr (by omega) (fun p hp => hall p (List.mem_cons_of_mem _ hp))
    refine ⟨(u, v), ⟨(cs.drop o).take a.size, cs.drop (o + a.size), ?_, hu, hv⟩, hub, hvb⟩
    rw [← List.drop_drop, List.take_append_drop]
theorem open_ty {D : Tab} (hD : TabOk P D) : ∀ (n : Nat) (t : TypeId) (ty : Ty), opB D n t ty = true → ∀ fuel cs x, DataW.trod enc P w base spare held fuel t cs = some x → ∃ y : ty.den, FzC (fun _ => True) w ty y cs ∧ ty.inB y
  | 0, _, _, h => by cases h
  | n + 1, t, ty, h => by
    intro fuel cs x hx
    have hS := opB_size hD h
    unfold opB at h
    simp only [Bool.and_eq_true] at h
    obtain ⟨_, h⟩ := h
    have fields : ∀ (sz bt en : Nat) (l : List (Nat × Nat)) (z : List Z) (b : Bool), tlook D t = some ⟨sz, .struct l, z, b, bt, en⟩ → ∃ m, fuel = m + 1 ∧ cs.length = ty.size ∧ ∀ p ∈ l, ∃ x, DataW.trod enc P w base spare held m p.2 ((cs.drop p.1).take (P.cellsOf p.2)) = some x := by
      intro sz bt en l z b hl
      obtain ⟨fs, h1, h2⟩ := of_tstruct hD hl
      obtain ⟨xs, m, hm, _, hlen, hxs, hf⟩ := DataW.trod_struct h1 hx
      refine ⟨m, hm, hlen.trans hS.1, fun p hp => ?_⟩
      rw [← h2] at hp
      obtain ⟨f, hf1, rfl⟩ := List.mem_map.1 hp
      obtain ⟨i, hi, rfl⟩ := List.getElem_of_mem hf1
      have hi' : i < fs.size := by simpa using hi
      have := hf i fs.toList[i] (by simp [Array.getElem?_eq_getElem hi'])
      rw [List.getElem?_eq_getElem (by omega)] at this
      exact ⟨_, this⟩
    cases ty with
    | int k =>
      simp only [decide_eq_true_eq] at h
      obtain ⟨m, rfl, _, hw⟩ := DataW.trod_int (of_tkind hD h) hx
      unfold Lit.wf at hw
      simp only [Bool.and_eq_true, decide_eq_true_eq] at hw
      exact ⟨m, rfl, hw⟩
    | bool =>
      obtain ⟨b, rfl, _⟩ := DataW.trod_bool (of_tbool hD h) hx
      exact ⟨b, rfl, trivial⟩
    | str =>
      obtain ⟨s, rfl, _, hs⟩ := DataW.trod_string (of_tstr hD h) hx
      exact ⟨s, rfl, hs⟩
    | flt k =>
      have ht := of_tflt hD (by simpa using h)
      obtain ⟨b, rfl, hw⟩ := trod_flt ht hx
      exact ⟨b, rfl, hw⟩
    | raw => cases h
    | arr m e => cases h
    | one a =>
      simp only at h
      split at h
      · rename_i sz o t0 z b bt en hl
        simp only [Bool.and_eq_true] at h
        have ho := beq_eq h.1
        subst ho
        obtain ⟨m, hm, hlen, hall⟩ := fields _ _ _ _ _ _ hl
        obtain ⟨x', hx'⟩ := hall (0, t0) (by simp)
        simp only [List.drop_zero] at hx'
        rw [(opB_size hD h.2).1, List.take_of_length_le (by rw [hlen]; exact Nat.le_refl _)] at hx'
        obtain ⟨y, h1, h2⟩ := open_ty hD n t0 a h.2 m cs x' hx'
        exact ⟨y, h1, h2⟩
      · cases h
    | pair a b =>
      simp only at h
      split at h
      · rename_i sz fs z bb bt en hl
        obtain ⟨m, hm, hlen, hall⟩ := fields _ _ _ _ _ _ hl
        have := open_fs (cs := cs) (fun t ty ht cs x hx => open_ty hD n t ty ht m cs x hx) (fun t ty ht => (opB_size hD ht).1) fs (.pair a b) 0 h (by rw [hlen]; omega) hall
        simpa using this
      · cases h
    | list e =>
      simp only at h
      cases he : telem D t with
      | none => rw [he] at h; cases h
      | some e' =>
        rw [he] at h
        simp only at h
        obtain ⟨hs, hs0⟩ := opB_size hD h
        rcases Deep.open_slice (of_telem hD he) hx with ⟨rfl, _⟩ | ⟨a, len, cap, m, n', Df, Pl, rfl, hb, hle, hcap, hm, _, hall⟩
        · exact ⟨[], ⟨none, 0, rfl, Nat.le_refl _, fun i hi => absurd hi (Nat.not_lt_zero _)⟩, Nat.zero_le _, fun i hi => absurd hi (Nat.not_lt_zero _)⟩
        · have hmle : len ≤ m := by rw [hm]; split <;> omega
          have key : ∀ i, i < len → ∃ y : e.den, e.inB y ∧ ∃ cs', FzC (fun _ => True) w e y cs' ∧ ∀ j (hj : j < cs'.length), w.cell? ⟨a.block, a.off + i * e.size + j, none⟩ = some cs'[j] := by
            intro i hi
            obtain ⟨cs', h1, h2⟩ := hall i (by omega)
            obtain ⟨y, hy, hyb⟩ := open_ty hD n e' e h n' cs' _ h2
            refine ⟨y, hyb, cs', hy, fun j hj => ?_⟩
            obtain ⟨_, hl, hc⟩ := World.cells?_some h1
            rw [hs] at hl hc
            have h0 := hc 0 hs0
            have hz : 0 < cs'.length := by omega
            have := hc j (by omega)
            rw [List.getElem?_eq_getElem hj] at this
            have hsp := World.cell?_spot this
            unfold Addr.add at this hsp
            obtain ⟨ab, ao, asp⟩ := a
            by_cases hi0 : i * e.size = 0
            · rw [if_pos hi0] at this hsp
              by_cases hj0 : j = 0
              · subst hj0
                simp only [if_true] at this hsp
                subst hsp
                rw [hi0]; exact this
              · rw [if_neg hj0] at this
                simp only at this ⊢
                rw [hi0]; exact this
            · rw [if_neg hi0] at this hsp
              by_cases hj0 : j = 0
              · subst hj0
                simp only [if_true] at this
                exact this
              · rw [if_neg hj0] at this
                exact this
          letI : Inhabited e.den := ⟨e.dft⟩
          obtain ⟨f, hf⟩ := Deep.choose_lt key
          refine ⟨(List.range len).map f, ⟨some a, cap, by simp, by simpa using hle, fun i hi => ?_⟩, by simp; omega, fun i hi => ?_⟩
          · have hi' : i < len := by simpa using hi
            obtain ⟨_, cs', h1, h2⟩ := hf i hi'
            have hpos : 0 < cs'.length := by rw [h1.len]; exact hs0
            have hcell := h2 0 hpos
            refine ⟨a.block, a.off, cs', ?_, trivial, World.block_lt_of_cell? w ⟨a.block, _, none⟩ hcell, by simpa using h1, h2⟩
            obtain ⟨c0, e0, _⟩ := hall 0 (by omega)
            obtain ⟨_, hl0, hc0⟩ := World.cells?_some e0
            rw [hs] at hl0 hc0
            have := hc0 0 hs0
            rw [List.getElem?_eq_getElem (by omega)] at this
            have hsp := World.cell?_spot this
            rw [Nat.zero_mul] at hsp
            simp only [Addr.add, if_true] at hsp
            obtain ⟨ab, ao, asp⟩ := a
            simp only at hsp; subst hsp; rfl
          · simp
            exact (hf i (by simpa using hi)).1
theorem opB_agg {D : Tab} (hD : TabOk P D) {n : Nat} {t : TypeId} {ty : Ty} (h : opB D n t ty = true) : (ty.isAgg = true ∧ ∃ fs, P.underlying t = some (.struct fs)) ∨
    (ty.isAgg = false ∧ ((∃ k, P.underlying t = some (.int k)) ∨ P.underlying t = some .bool ∨ P.underlying t = some .string ∨ (∃ e, P.underlying t = some (.slice e)) ∨ ∃ k, P.underlying t = some (.float k))) := by
  cases n with
  | zero => cases h
  | succ n =>
    unfold opB at h
    simp only [Bool.and_eq_true] at h
    obtain ⟨_, h⟩ := h
    cases ty with
    | int k => exact .inr ⟨rfl, .inl ⟨k, of_tkind hD (by simpa using h)⟩⟩
    | bool => exact .inr ⟨rfl, .inr (.inl (of_tbool hD h))⟩
    | str => exact .inr ⟨rfl, .inr (.inr (.inl (of_tstr hD h)))⟩
    | flt k => exact .inr ⟨rfl, .inr (.inr (.inr (.inr ⟨k, of_tflt hD (by simpa using h)⟩)))⟩
    | raw => cases h
    | arr m e => cases h
    | list e =>
      simp only at h
      cases he : telem D t with
      | none => rw [he] at h; cases h
      | some e' => exact .inr ⟨rfl, .inr (.inr (.inr (.inl ⟨e', of_telem hD he⟩)))⟩
    | one a =>
      simp only at h
      split at h
      · rename_i hl; obtain ⟨fs, h1, _⟩ := of_tstruct hD hl; exact .inl ⟨rfl, fs, h1⟩
      · cases h
    | pair a b =>
      simp only at h
      split at h
      · rename_i hl; obtain ⟨fs, h1, _⟩ := of_tstruct hD hl; exact .inl ⟨rfl, fs, h1⟩
      · cases h
/-- the state ahead of a law: nothing is its own -/
def Cx.start (G : List (Nat × Value)) (w : World) : Cx := ⟨fun _ => none, [], fun _ => False, w, G⟩
theorem start_I {G : List (Nat × Value)} {w : World} (b : Nat) : (Cx.start G w).I b := ⟨fun h => h, fun t h => by obtain ⟨o, h1, _⟩ := h; simp [Cx.start] at h1⟩
theorem start_fz {G : List (Nat × Value)} {w : World} {t : Ty} {x : t.den} {cs : List Value} (h : FzC (fun _ => True) w t x cs) : FzC (Cx.start G w).I (Cx.start G w).w t x cs := h.mono fun b _ _ => ⟨start_I b, rfl⟩
theorem open_val {D : Tab} (hD : TabOk P D) {n : Nat} {t : TypeId} {ty : Ty} (hop : opB D n t ty = true) {r : Reach} {b0 : Nat} {v : Value} {d : DataW H} {ps : List MemPlace} (G : List (Nat × Value)) (hv : Value.okWide P w r b0 t v)
    (hd : DataW.Trod enc P w base spare held t v d ps) : ∃ y : ty.den, Rel (Cx.start G w) (.fz ty y) v ∧ ty.inB y := by
  obtain ⟨fuel, hf⟩ := hd
  obtain ⟨y, h1, h2⟩ := open_ty hD n t ty hop fuel _ _ hf
  refine ⟨y, ?_, h2⟩
  have hr := rel_fz_mk (start_fz (G := G) h1)
  have : valOf ty v.cells.toList = v := by
    unfold valOf
    rcases opB_agg hD hop with ⟨ha, fs, hs⟩ | ⟨ha, hs⟩
    · obtain ⟨cs, rfl, _⟩ := WideShapes.okWide_struct hs hv
      rw [if_pos ha]; simp [Value.cells]
    · rw [if_neg (by simp [ha])]
      rcases hs with ⟨k, hs⟩ | hs | hs | ⟨e, hs⟩ | ⟨k, hs⟩
      · obtain ⟨m, rfl⟩ := WideShapes.okWide_int hs hv; rfl
      · obtain ⟨m, rfl⟩ := WideShapes.okWide_bool hs hv; rfl
      · obtain ⟨m, rfl⟩ := WideShapes.okWide_string hs hv; rfl
      · obtain ⟨a, len, cap, rfl⟩ := WideShapes.okWide_slice hs hv; rfl
      · simp only [Value.okWide, hs, Cell.okWide] at hv
        cases v <;> simp_all [Cell.ok, Value.cells]
  rw [← this]; exact hr
def tptrTo (D : Tab) (t : TypeId) : Option TypeId := match tlook D t with
  | some i => match i.d with
    | .ptr e => some e
    | _ => none
  | none => none
theorem of_tptrTo {D : Tab} (hD : TabOk P D) {t e : TypeId} (h : tptrTo D t = some e) : P.underlying t = some (.pointer e) := by
  unfold tptrTo at h
  cases hi : tlook D t with
  | none => rw [hi] at h; cases h
  | some x =>
    rw [hi] at h
    obtain ⟨i, d, _, h2, _, h4, _⟩ := tlook_info hD hi
    simp only at h
    cases hd : x.d <;> rw [hd] at h h4 <;> try (cases h; done)
    cases d <;> try (cases h4; done)
    cases h
    rw [h2, beq_eq h4]
theorem open_ptr {D : Tab} (hD : TabOk P D) {n : Nat} {t e : TypeId} {ty : Ty} (hp : tptrTo D t = some e) (hop : opB D n e ty = true) {r : Reach} {b0 : Nat} {v : Value} {d : DataW H} {ps : List MemPlace} (G : List (Nat × Value)) (hv : Value.okWide P w r b0 t v)
    (hd : DataW.Trod enc P w base spare held t v d ps) : v = .pointer none ∨ ∃ y : ty.den, Rel (Cx.start G w) (.fptr ty y) v ∧ ty.inB y := by
  obtain ⟨fuel, hf⟩ := hd
  have hu := of_tptrTo hD hp
  obtain ⟨a0, rfl⟩ := WideShapes.okWide_pointer hu hv
  rcases DataW.trod_pointer hu hf with ⟨h1, _⟩ | ⟨a, cs', y, m, _, h1, _, h2, h3⟩
  · simp [Value.cells] at h1; subst h1; exact .inl rfl
  · simp [Value.cells] at h1; subst h1
    obtain ⟨y', k1, k2⟩ := open_ty hD n e ty hop m _ _ h3
    obtain ⟨hs, hs0⟩ := opB_size hD hop
    obtain ⟨_, hl, hc⟩ := World.cells?_some h2
    rw [hs] at hl hc
    have h0 := hc 0 hs0
    rw [List.getElem?_eq_getElem (by omega)] at h0
    have hsp := World.cell?_spot h0
    simp only [Addr.add, if_true] at h0 hsp
    obtain ⟨ab, ao, asp⟩ := a
    simp only at hsp; subst hsp
    refine .inr ⟨y', ?_, k2⟩
    unfold Rel
    refine ⟨ab, ao, cs', rfl, start_I ab, World.block_lt_of_cell? w _ h0, start_fz k1, fun j hj => ?_⟩
    have := hc j (by omega)
    rw [List.getElem?_eq_getElem hj] at this
    unfold Addr.add at this
    by_cases hj0 : j = 0
    · subst hj0; rw [if_pos rfl] at this; exact this
    · rw [if_neg hj0] at this; exact this
end
/-- what a known variable must be ahead of a law -/
def Glo0 (w : World) (g : Nat) (v : Value) : Prop := w.cell? ⟨g, 0, none⟩ = some v ∧ ocell v = true ∧ ∀ T a, v = .iface T (.pointer (some a)) → ∃ cs et, w.heap[a.block]? = some (.cells cs et (0, 0))
/-- .. and what a known table must be -/
def GloT (w : World) (g : Nat) (v : Value) : Prop := ∃ cs et fr, v = .agg cs ∧ w.heap[g]? = some (.cells cs et fr)
theorem Glo0.noTab {w : World} {g : Nat} {v : Value} (h : Glo0 w g v) : isTab v = false := by
  have := h.2.1
  cases v <;> first | rfl | cases this
def hasBodyB (P : Program) (f : FuncId) : Bool := match P.funcs[f]? with
  | some fn => !fn.body.isNone && !(fn.name == "runtime.NumGoroutine")
  | none => false
theorem hasBodyB_of {P : Program} {f : FuncId} (h : hasBodyB P f = true) : hasBody P f := by
  unfold hasBodyB at h
  cases hf : P.funcs[f]? with
  | none => rw [hf] at h; cases h
  | some fn =>
    rw [hf] at h
    simp only [Bool.and_eq_true, Bool.not_eq_true'] at h
    exact ⟨fn, hf, h.1, h.2⟩
theorem callsX_body {P : Program} {f : FuncId} {vs : Array Value} {w : World} {R : Ending → World → Prop} (h : CallsX P f vs w R) (hb : hasBody P f) : Calls P f vs w R := by
  rcases h with h | ⟨v, w', h0, _⟩
  · exact h.2
  · rw [run_callFunc hb] at h0; cases h0
/-- a contract, run ahead of which nothing is one's own -/
theorem acall_start {P : Program} {G : List (Nat × Value)} {f : FuncId} {args : List AV} {K : AV → List AO → Prop} {w : World} {vs : List Value} (hc : ACall P G f args [] K) (hB : hasBodyB P f = true)
    (hg : ∀ g v, gk G g = some v → Glo0 w g v ∨ GloT w g v) (hv : RelL (Cx.start G w) args vs) :
    Calls P f vs.toArray w fun e w' => ∃ v c' r, e = .returned v ∧ c'.w = w' ∧ Below w.heap.size w w' ∧ Rel c' r v ∧ K r c'.A := by
  have H : HR (Cx.start G w) := ⟨fun t b h => by obtain ⟨o, h1, _⟩ := h; simp [Cx.start] at h1, fun t u b h => by obtain ⟨o, h1, _⟩ := h; simp [Cx.start] at h1,
    fun t o h => by simp [Cx.start] at h, fun b h => h.elim, fun g v h => by
      rcases hg g v h with q | ⟨cs, et, fr, rfl, q⟩
      · exact ⟨start_I g, fun _ => q.1, fun _ => q.2.1, fun T a e => ⟨start_I _, q.2.2 T a e⟩, fun cs e => by have := q.noTab; rw [e] at this; cases this⟩
      · exact ⟨start_I g, fun h => (by cases h), fun h => (by cases h), fun T a e => (by cases e), fun cs' e => by cases e; exact ⟨et, fr, q⟩⟩⟩
  refine (callsX_body (hc.run (Cx.start G w) H rfl rfl vs hv) (hasBodyB_of hB)).mono fun e w' ⟨v, c', r, h1, h2, h3, h4, h5, h6⟩ => ⟨v, c', r, h1, h2, ?_, h5, h6⟩
  subst h2
  have hb : ∀ k, k < w.heap.size → c'.w.heap[k]? = w.heap[k]? := fun k hk => (h3.le.I k (start_I k) hk).2
  refine ⟨h3.st.os, h3.st.tape, h3.st.output, ?_, hb⟩
  rcases Nat.lt_or_ge c'.w.heap.size w.heap.size with hlt | hge
  · have := hb c'.w.heap.size hlt
    rw [Array.getElem?_eq_none (Nat.le_refl _), Array.getElem?_eq_getElem hlt] at this
    cases this
  · exact hge
/-- .. of a law that answers true -/
theorem acall_true' {P : Program} {G : List (Nat × Value)} {f : FuncId} {args : List AV} {w : World} {vs : List Value} (hc : ACall P G f args [] fun r _ => r = .fz .bool true)
    (hg : ∀ g v, gk G g = some v → Glo0 w g v ∨ GloT w g v) (hv : RelL (Cx.start G w) args vs) (hB : hasBodyB P f = true := by decide +kernel) :
    Calls P f vs.toArray w fun e w' => e = .returned (.bool true) ∧ Below w.heap.size w w' :=
  (acall_start hc hB hg hv).mono fun e w' ⟨v, c', r, h1, _, h3, h4, h5⟩ => by
    subst h5
    rw [rel_bool] at h4
    subst h4
    exact ⟨h1, h3⟩
theorem acall_true {P : Program} {G : List (Nat × Value)} {f : FuncId} {args : List AV} {w : World} {vs : List Value} (hc : ACall P G f args [] fun r _ => r = .fz .bool true)
    (hg : ∀ g v, gk G g = some v → Glo0 w g v) (hv : RelL (Cx.start G w) args vs) (hB : hasBodyB P f = true := by decide +kernel) :
    Calls P f vs.toArray w fun e w' => e = .returned (.bool true) ∧ Below w.heap.size w w' :=
  acall_true' hc (fun g v h => .inl (hg g v h)) hv hB
end Go.Ab
/-
  Contracts over fewer known variables serve where more are known.
-/
namespace Go.Ab
open Go
def Cx.withG (c : Cx) (G : List (Nat × Value)) : Cx := { c with G := G }
mutual
theorem rel_withG {c : Cx} {G : List (Nat × Value)} : ∀ (a : AV) (v : Value), Rel c a v → Rel (c.withG G) a v
  | .fz _ _, _, h => by unfold Rel at *; exact h
  | .fptr _ _, _, h => by unfold Rel at *; exact h
  | .ref _ _ _, _, h => by unfold Rel at *; exact h
  | .nilSl, _, h => by unfold Rel at *; exact h
  | .ptr _ _, _, h => by unfold Rel at *; exact h
  | .elt _ _ _, _, h => by unfold Rel at *; exact h
  | .glob _, _, h => by unfold Rel at *; exact h
  | .agg l, _, h => by unfold Rel at *; obtain ⟨vs, h1, h2⟩ := h; exact ⟨vs, h1, relL_withG l vs h2⟩
  | .tup l, _, h => by unfold Rel at *; obtain ⟨vs, h1, h2⟩ := h; exact ⟨vs, h1, relL_withG l vs h2⟩
  | .fn _ l, _, h => by unfold Rel at *; obtain ⟨vs, h1, h2⟩ := h; exact ⟨vs, h1, relL_withG l vs h2⟩
  | .ifc _ a, _, h => by unfold Rel at *; obtain ⟨u, h1, h2⟩ := h; exact ⟨u, h1, rel_withG a u h2⟩
  | .opt _ a, v, h => by unfold Rel at *; exact ⟨fun hg => rel_withG a v (h.1 hg), h.2⟩
  | .unk, _, _ => by unfold Rel; trivial
theorem relL_withG {c : Cx} {G : List (Nat × Value)} : ∀ (l : List AV) (vs : List Value), RelL c l vs → RelL (c.withG G) l vs
  | [], vs, h => by unfold RelL at *; exact h
  | a :: l, vs, h => by unfold RelL at *; obtain ⟨v, r, e, h1, h2⟩ := h; exact ⟨v, r, e, rel_withG a v h1, relL_withG l r h2⟩
end
theorem obj_withG {c : Cx} {G : List (Nat × Value)} {r : Option Nat} {o : AO} (h : ObjOk c r o) : ObjOk (c.withG G) r o := by
  cases o with
  | dead => trivial
  | room => trivial
  | row e xs => exact h
  | box vs => obtain ⟨b, cs, et, h1, h2, h3⟩ := h; exact ⟨b, cs, et, h1, h2, relL_withG vs cs h3⟩
  | mapo i vs => obtain ⟨b, ob, us, h1, h2, h4, h3⟩ := h; exact ⟨b, ob, us, h1, h2, h4, relL_withG vs us h3⟩
theorem acall_more {P : Program} {G G' : List (Nat × Value)} {f : FuncId} {args : List AV} {A : List AO} {K : AV → List AO → Prop} (h : ACall P G f args A K) (hG : ∀ g v, gk G g = some v → gk G' g = some v) : ACall P G' f args A K := by
  refine ⟨h.body, fun c H hA hG' vs hv => ?_⟩
  have H0 : HR (c.withG G) := ⟨H.far, H.inj, fun t o ht => obj_withG (H.obj t o ht), H.old, fun g v hg => by obtain ⟨q1, q2, q3, q4, q5⟩ := H.glo g v (by rw [hG']; exact hG g v hg); exact ⟨q1, q2, q3, q4, q5⟩⟩
  refine (h.run (c.withG G) H0 hA rfl vs (relL_withG _ _ hv)).mono fun e w' ⟨v, c', r, h1, h2, h3, h4, h5, h6⟩ => ⟨v, c'.withG G', r, h1, h2, ⟨⟨h3.le.I, h3.le.tok, h3.le.len⟩, h3.X, hG'.symm, h3.far, h3.st⟩, ?_, rel_withG _ _ h5, h6⟩
  refine ⟨h4.far, h4.inj, fun t o ht => obj_withG (h4.obj t o ht), h4.old, fun g v hg => ?_⟩
  obtain ⟨p1, p2, p3, p4, p5⟩ := H.glo g v (by rw [hG']; exact hg)
  have q0 : GloOk (c.withG G) g v := ⟨p1, p2, p3, p4, p5⟩
  obtain ⟨q1, q2, q3, q4, q5⟩ := q0.mono h3.le.I
  exact ⟨q1, q2, q3, q4, q5⟩
end Go.Ab
/-
  Laid errors: what their variables hold.
-/
namespace Go.Ab
open Go Go.ChangeShapes
/-- an error with a text, al a row lays it -/
def errD {H : Type} (t : List UInt8) : DataW H := .iface "*errors.errorString" (.ptr (.agg [.lit (.string t)]))
theorem laid_errs {P : Program} {w : World} {T te ts : TypeId} {f : Field} (hrow : ∀ u, P.typeName? 3 u = some "*errors.errorString" → u = T)
    (hp : P.underlying T = some (.pointer te)) (he : P.underlying te = some (.struct #[f])) (hft : f.type = ts) (hfo : f.offset = 0) (hs : P.underlying ts = some .string) (hc : P.cellsOf te = 1) (hcs : P.cellsOf ts = 1) :
    ∀ (l : List (String × List UInt8)) (gs : List Nat) (ps : List MemPlace), DataW.LaidVars P w (l.map fun x => (x.1, errD x.2)) ps → ps.Nodup →
    (∀ b off, MemPlace.cell b off ∈ ps → (∃ c t, w.heap[b]? = some (.cells c t (0, 0))) ∧ ∀ u v, w.cell? ⟨b, off, none⟩ = some (.iface u v) → Value.okWide P w .any 0 u v) →
    (l.map fun x => P.globalNamed x.1) = gs.map some → (∀ g ∈ gs, ∃ ti ms, (P.globals[g]?).map (·.type) = some ti ∧ P.underlying ti = some (.interface ms)) →
    ∃ al : List Addr, al.length = gs.length ∧ al.Nodup ∧ (∀ (i : Nat) g a, gs[i]? = some g → al[i]? = some a → Glo0 w g (.iface T (.pointer (some a)))) ∧ ∀ a ∈ al, MemPlace.cell a.block a.off ∈ ps
  | [], [], _, _, _, _, _, _ => ⟨[], rfl, List.nodup_nil, fun i g a h => by simp at h, fun a h => by cases h⟩
  | [], _ :: _, _, _, _, _, h, _ => by simp at h
  | _ :: _, [], _, _, _, _, h, _ => by simp at h
  | x :: l, g :: gs, ps, h, hn, hall, hg, ht => by
    simp only [List.map_cons, List.cons.injEq] at hg
    obtain ⟨g', t', cs, fuel, p, q, h1, h2, h3, h4, h5, h6⟩ := h
    obtain rfl := Option.some.inj (hg.1.symm.trans h1)
    obtain ⟨ti, ms, k1, k2⟩ := ht g (List.mem_cons_self ..)
    obtain rfl := Option.some.inj (k1.symm.trans h2)
    subst h6
    obtain ⟨cl⟩ := cs
    have hok : ∀ u v, cl = [.iface u v] → Value.okWide P w .any 0 u v := fun u v e => by
      subst e
      exact (hall g 0 (by simp [MemPlace.row])).2 u v (by simpa using World.var?_cell h1 h3 0)
    obtain ⟨a, s, rfl, hca, _, _, rfl⟩ := errorString_of_trod k2 hrow hp he hft hfo hs hc hcs h4 hok
    have hmem : MemPlace.cell a.block a.off ∈ MemPlace.row a 1 := by simp [MemPlace.row]
    rw [List.append_assoc] at hn hall
    obtain ⟨al, j1, j2, j3, j4⟩ := laid_errs hrow hp he hft hfo hs hc hcs l gs q h5 ((hn.sublist (List.sublist_append_right _ _)).sublist (List.sublist_append_right _ _))
      (fun b off hb => hall b off (List.mem_append_right _ (List.mem_append_right _ hb))) hg.2 (fun g hg => ht g (List.mem_cons_of_mem _ hg))
    refine ⟨a :: al, by simp [j1], List.nodup_cons.2 ⟨fun hm => ?_, j2⟩, fun i g' a' h h' => ?_, fun a' h => ?_⟩
    · have := (List.nodup_append.1 (hn.sublist (List.sublist_append_right _ _))).2.2 _ hmem _ (j4 a hm)
      exact this rfl
    · cases i with
      | zero =>
        simp at h h'
        subst h; subst h'
        refine ⟨by simpa using World.var?_cell h1 h3 0, rfl, fun T' b e => ?_⟩
        cases e
        exact (hall a.block a.off (List.mem_append_right _ (List.mem_append_left _ hmem))).1
      | succ i => exact j3 i g' a' (by simpa using h) (by simpa using h')
    · rcases List.mem_cons.1 h with rfl | h
      · rw [List.append_assoc]; exact List.mem_append_right _ (List.mem_append_left _ hmem)
      · rw [List.append_assoc]; exact List.mem_append_right _ (List.mem_append_right _ (j4 a' h))
end Go.Ab
/-
  The table of the types of this program (printed by a program), and that it is true.
-/
namespace Go.Proofs.YtgjjooophigkoaaGreatDoor
open Go Go.Ab
set_option maxRecDepth 100000
def tab : Tab := [
  (1, ⟨1, .fn, [.nilF], true, 8, 0⟩),
  (2, ⟨1, .int .i64, [.int .i64], true, 8, 0⟩),
  (3, ⟨1, .int .i64, [.int .i64], true, 8, 0⟩),
  (4, ⟨1, .bool, [.bool], true, 1, 0⟩),
  (5, ⟨1, .int .u8, [.int .u8], true, 1, 0⟩),
  (9, ⟨1, .str, [.str], true, 16, 0⟩),
  (12, ⟨1, .int .u64, [.int .u64], true, 8, 0⟩),
  (13, ⟨2, .struct [(0, 9), (1, 12)], [.str, .int .u64], true, 24, 0⟩),
  (20, ⟨1, .ifc, [.nilI], false, 16, 0⟩),
  (21, ⟨1, .int .i32, [.int .i32], true, 4, 0⟩),
  (22, ⟨1, .ptr 32, [.nilP], true, 8, 0⟩),
  (23, ⟨1, .fn, [.nilF], true, 8, 0⟩),
  (24, ⟨1, .fn, [.nilF], true, 8, 0⟩),
  (25, ⟨1, .slice 39, [.nilSl], true, 24, 0⟩),
  (26, ⟨1, .ifc, [.nilI], false, 16, 0⟩),
  (27, ⟨1, .ifc, [.nilI], false, 16, 0⟩),
  (29, ⟨1, .fn, [.nilF], true, 8, 0⟩),
  (30, ⟨1, .slice 3, [.nilSl], true, 24, 0⟩),
  (31, ⟨3, .struct [(0, 3), (1, 3), (2, 30)], [.int .i64, .int .i64, .nilSl], true, 40, 0⟩),
  (32, ⟨3, .struct [(0, 3), (1, 3), (2, 30)], [.int .i64, .int .i64, .nilSl], true, 40, 0⟩),
  (33, ⟨1, .fn, [.nilF], true, 8, 0⟩),
  (34, ⟨1, .fn, [.nilF], true, 8, 0⟩),
  (35, ⟨1, .slice 38, [.nilSl], true, 24, 0⟩),
  (36, ⟨1, .fn, [.nilF], true, 8, 0⟩),
  (37, ⟨5, .struct [(0, 3), (1, 3), (2, 3), (3, 3), (4, 3)], [.int .i64, .int .i64, .int .i64, .int .i64, .int .i64], true, 40, 5⟩),
  (38, ⟨5, .struct [(0, 3), (1, 3), (2, 3), (3, 3), (4, 3)], [.int .i64, .int .i64, .int .i64, .int .i64, .int .i64], true, 40, 5⟩),
  (39, ⟨5, .struct [(0, 3), (1, 3), (2, 3), (3, 3), (4, 3)], [.int .i64, .int .i64, .int .i64, .int .i64, .int .i64], true, 40, 5⟩),
  (40, ⟨1, .fn, [.nilF], true, 8, 0⟩),
  (42, ⟨1, .fn, [.nilF], true, 8, 0⟩),
  (44, ⟨1, .fn, [.nilF], true, 8, 0⟩),
  (46, ⟨1, .fn, [.nilF], true, 8, 0⟩),
  (47, ⟨2, .struct [(0, 3), (1, 3)], [.int .i64, .int .i64], true, 16, 2⟩),
  (48, ⟨2, .struct [(0, 3), (1, 3)], [.int .i64, .int .i64], true, 16, 2⟩),
  (50, ⟨1, .fn, [.nilF], true, 8, 0⟩),
  (51, ⟨1, .fn, [.nilF], true, 8, 0⟩),
  (52, ⟨1, .fn, [.nilF], true, 8, 0⟩),
  (53, ⟨1, .fn, [.nilF], true, 8, 0⟩),
  (54, ⟨1, .slice 68, [.nilSl], true, 24, 0⟩),
  (56, ⟨1, .fn, [.nilF], true, 8, 0⟩),
  (57, ⟨1, .slice 30, [.nilSl], true, 24, 0⟩),
  (59, ⟨1, .fn, [.nilF], true, 8, 0⟩),
  (60, ⟨1, .fn, [.nilF], true, 8, 0⟩),
  (61, ⟨1, .fn, [.nilF], true, 8, 0⟩),
  (62, ⟨3, .struct [(0, 30), (1, 30), (2, 30)], [.nilSl, .nilSl, .nilSl], true, 72, 0⟩),
  (63, ⟨3, .struct [(0, 30), (1, 30), (2, 30)], [.nilSl, .nilSl, .nilSl], true, 72, 0⟩),
  (64, ⟨1, .fn, [.nilF], true, 8, 0⟩),
  (66, ⟨1, .fn, [.nilF], true, 8, 0⟩),
  (67, ⟨3, .struct [(0, 3), (1, 3), (2, 3)], [.int .i64, .int .i64, .int .i64], true, 24, 3⟩),
  (68, ⟨3, .struct [(0, 3), (1, 3), (2, 3)], [.int .i64, .int .i64, .int .i64], true, 24, 3⟩),
  (69, ⟨1, .fn, [.nilF], true, 8, 0⟩),
  (70, ⟨1, .fn, [.nilF], true, 8, 0⟩),
  (71, ⟨1, .fn, [.nilF], true, 8, 0⟩),
  (72, ⟨1, .fn, [.nilF], true, 8, 0⟩),
  (73, ⟨1, .fn, [.nilF], true, 8, 0⟩),
  (74, ⟨0, .struct [], [], true, 0, 0⟩),
  (75, ⟨0, .struct [], [], true, 0, 0⟩),
  (76, ⟨0, .struct [], [], true, 0, 0⟩),
  (77, ⟨1, .struct [(0, 75), (0, 76), (0, 2)], [.int .i64], true, 8, 0⟩),
  (78, ⟨1, .struct [(0, 75), (0, 76), (0, 2)], [.int .i64], true, 8, 0⟩),
  (79, ⟨0, .struct [], [], true, 0, 0⟩),
  (80, ⟨1, .int .u64, [.int .u64], true, 8, 0⟩),
  (81, ⟨1, .struct [(0, 75), (0, 76), (0, 80)], [.int .u64], true, 8, 0⟩),
  (82, ⟨1, .struct [(0, 75), (0, 76), (0, 80)], [.int .u64], true, 8, 0⟩),
  (83, ⟨1, .int .u32, [.int .u32], true, 4, 0⟩),
  (84, ⟨2, .struct [(0, 79), (0, 82), (1, 83)], [.int .u64, .int .u32], true, 16, 0⟩),
  (85, ⟨2, .struct [(0, 79), (0, 82), (1, 83)], [.int .u64, .int .u32], true, 16, 0⟩),
  (87, ⟨1, .fn, [.nilF], true, 8, 0⟩),
  (88, ⟨1, .fn, [.nilF], true, 8, 0⟩),
  (89, ⟨1, .other, [.nilM], true, 8, 0⟩),
  (90, ⟨1, .fn, [.nilF], true, 8, 0⟩),
  (91, ⟨1, .fn, [.nilF], true, 8, 0⟩),
  (92, ⟨1, .fn, [.nilF], true, 8, 0⟩),
  (93, ⟨1, .fn, [.nilF], true, 8, 0⟩),
  (95, ⟨1, .fn, [.nilF], true, 8, 0⟩),
  (96, ⟨1, .fn, [.nilF], true, 8, 0⟩),
  (97, ⟨1, .ptr 100, [.nilP], true, 8, 0⟩),
  (98, ⟨1, .slice 5, [.nilSl], true, 24, 0⟩),
  (99, ⟨2, .struct [(0, 97), (1, 98)], [.nilP, .nilSl], true, 32, 0⟩),
  (100, ⟨2, .struct [(0, 97), (1, 98)], [.nilP, .nilSl], true, 32, 0⟩),
  (102, ⟨1, .fn, [.nilF], true, 8, 0⟩),
  (103, ⟨1, .fn, [.nilF], true, 8, 0⟩),
  (104, ⟨1, .fn, [.nilF], true, 8, 0⟩),
  (105, ⟨1, .fn, [.nilF], true, 8, 0⟩),
  (106, ⟨1, .fn, [.nilF], true, 8, 0⟩),
  (107, ⟨1, .ptr 109, [.nilP], true, 8, 0⟩),
  (108, ⟨2, .struct [(0, 3), (1, 27)], [.int .i64, .nilI], true, 24, 0⟩),
  (109, ⟨2, .struct [(0, 3), (1, 27)], [.int .i64, .nilI], true, 24, 0⟩),
  (110, ⟨1, .fn, [.nilF], true, 8, 0⟩),
  (111, ⟨1, .slice 9, [.nilSl], true, 24, 0⟩),
  (112, ⟨1, .fn, [.nilF], true, 8, 0⟩),
  (114, ⟨1, .fn, [.nilF], true, 8, 0⟩),
  (115, ⟨1, .fn, [.nilF], true, 8, 0⟩),
  (117, ⟨1, .fn, [.nilF], true, 8, 0⟩),
  (119, ⟨1, .fn, [.nilF], true, 8, 0⟩),
  (120, ⟨1, .other, [.nilM], true, 8, 0⟩),
  (121, ⟨1, .fn, [.nilF], true, 8, 0⟩),
  (122, ⟨2, .arr 2 3, [.int .i64, .int .i64], true, 16, 2⟩),
  (123, ⟨1, .fn, [.nilF], true, 8, 0⟩),
  (124, ⟨1, .fn, [.nilF], true, 8, 0⟩),
  (125, ⟨1, .fn, [.nilF], true, 8, 0⟩),
  (126, ⟨1, .other, [.nilM], true, 8, 0⟩),
  (127, ⟨1, .fn, [.nilF], true, 8, 0⟩),
  (128, ⟨1, .other, [.nilM], true, 8, 0⟩),
  (129, ⟨1, .fn, [.nilF], true, 8, 0⟩),
  (130, ⟨1, .fn, [.nilF], true, 8, 0⟩),
  (131, ⟨1, .fn, [.nilF], true, 8, 0⟩),
  (132, ⟨1, .slice 32, [.nilSl], true, 24, 0⟩),
  (133, ⟨1, .ptr 85, [.nilP], true, 8, 0⟩),
  (134, ⟨1, .fn, [.nilF], true, 8, 0⟩),
  (137, ⟨1, .fn, [.nilF], true, 8, 0⟩),
  (138, ⟨1, .fn, [.nilF], true, 8, 0⟩),
  (139, ⟨1, .fn, [.nilF], true, 8, 0⟩),
  (140, ⟨1, .int .u64, [.int .u64], true, 8, 0⟩),
  (141, ⟨1, .ptr 83, [.nilP], true, 8, 0⟩),
  (142, ⟨1, .fn, [.nilF], true, 8, 0⟩),
  (143, ⟨1, .fn, [.nilF], true, 8, 0⟩),
  (144, ⟨1, .fn, [.nilF], true, 8, 0⟩),
  (145, ⟨1, .fn, [.nilF], true, 8, 0⟩),
  (146, ⟨1, .ptr 78, [.nilP], true, 8, 0⟩),
  (147, ⟨1, .fn, [.nilF], true, 8, 0⟩),
  (148, ⟨1, .ptr 2, [.nilP], true, 8, 0⟩),
  (149, ⟨1, .fn, [.nilF], true, 8, 0⟩),
  (150, ⟨1, .fn, [.nilF], true, 8, 0⟩),
  (151, ⟨1, .fn, [.nilF], true, 8, 0⟩),
  (152, ⟨1, .fn, [.nilF], true, 8, 0⟩),
  (153, ⟨1, .fn, [.nilF], true, 8, 0⟩),
  (154, ⟨1, .fn, [.nilF], true, 8, 0⟩),
  (155, ⟨1, .ptr 107, [.nilP], true, 8, 0⟩),
  (156, ⟨1, .slice 27, [.nilSl], true, 24, 0⟩),
  (157, ⟨1, .fn, [.nilF], true, 8, 0⟩),
  (158, ⟨1, .fn, [.nilF], true, 8, 0⟩),
  (159, ⟨1, .ptr 5, [.nilP], true, 8, 0⟩),
  (160, ⟨1, .fn, [.nilF], true, 8, 0⟩),
  (161, ⟨1, .fn, [.nilF], true, 8, 0⟩),
  (162, ⟨1, .fn, [.nilF], true, 8, 0⟩),
  (163, ⟨1, .fn, [.nilF], true, 8, 0⟩),
  (164, ⟨1, .fn, [.nilF], true, 8, 0⟩),
  (165, ⟨1, .fn, [.nilF], true, 8, 0⟩),
  (166, ⟨1, .ptr 82, [.nilP], true, 8, 0⟩),
  (167, ⟨1, .fn, [.nilF], true, 8, 0⟩),
  (168, ⟨1, .ptr 80, [.nilP], true, 8, 0⟩),
  (169, ⟨1, .fn, [.nilF], true, 8, 0⟩),
  (170, ⟨1, .fn, [.nilF], true, 8, 0⟩),
  (171, ⟨1, .fn, [.nilF], true, 8, 0⟩),
  (172, ⟨1, .fn, [.nilF], true, 8, 0⟩),
  (173, ⟨1, .int .i64, [.int .i64], true, 8, 0⟩),
  (175, ⟨1, .fn, [.nilF], true, 8, 0⟩),
  (176, ⟨1, .fn, [.nilF], true, 8, 0⟩),
  (177, ⟨1, .fn, [.nilF], true, 8, 0⟩),
  (178, ⟨1, .fn, [.nilF], true, 8, 0⟩),
  (179, ⟨1, .fn, [.nilF], true, 8, 0⟩),
  (180, ⟨1, .fn, [.nilF], true, 8, 0⟩),
  (193, ⟨1, .fn, [.nilF], true, 8, 0⟩),
  (194, ⟨1, .fn, [.nilF], true, 8, 0⟩),
  (195, ⟨1, .fn, [.nilF], true, 8, 0⟩),
  (196, ⟨1, .fn, [.nilF], true, 8, 0⟩),
  (197, ⟨1, .fn, [.nilF], true, 8, 0⟩),
  (198, ⟨1, .fn, [.nilF], true, 8, 0⟩),
  (199, ⟨1, .fn, [.nilF], true, 8, 0⟩),
  (200, ⟨3, .struct [(0, 30), (1, 30), (2, 30)], [.nilSl, .nilSl, .nilSl], true, 72, 0⟩),
  (201, ⟨3, .struct [(0, 30), (1, 30), (2, 30)], [.nilSl, .nilSl, .nilSl], true, 72, 0⟩),
  (203, ⟨1, .fn, [.nilF], true, 8, 0⟩),
  (204, ⟨8, .arr 8 3, [.int .i64, .int .i64, .int .i64, .int .i64, .int .i64, .int .i64, .int .i64, .int .i64], true, 64, 8⟩),
  (205, ⟨1, .fn, [.nilF], true, 8, 0⟩),
  (206, ⟨1, .fn, [.nilF], true, 8, 0⟩),
  (207, ⟨1, .fn, [.nilF], true, 8, 0⟩),
  (208, ⟨1, .fn, [.nilF], true, 8, 0⟩),
  (209, ⟨1, .fn, [.nilF], true, 8, 0⟩),
  (210, ⟨1, .fn, [.nilF], true, 8, 0⟩),
  (211, ⟨1, .fn, [.nilF], true, 8, 0⟩),
  (212, ⟨1, .fn, [.nilF], true, 8, 0⟩),
  (213, ⟨1, .fn, [.nilF], true, 8, 0⟩),
  (214, ⟨1, .fn, [.nilF], true, 8, 0⟩),
  (215, ⟨1, .int .u64, [.int .u64], true, 8, 0⟩),
  (216, ⟨1, .fn, [.nilF], true, 8, 0⟩),
  (217, ⟨1, .fn, [.nilF], true, 8, 0⟩),
  (218, ⟨1, .ptr 3, [.nilP], true, 8, 0⟩),
  (219, ⟨1, .fn, [.nilF], true, 8, 0⟩),
  (225, ⟨1, .ifc, [.nilI], false, 16, 0⟩),
  (227, ⟨1, .fn, [.nilF], true, 8, 0⟩),
  (228, ⟨1, .ifc, [.nilI], false, 16, 0⟩),
  (229, ⟨1, .fn, [.nilF], true, 8, 0⟩),
  (230, ⟨1, .ifc, [.nilI], false, 16, 0⟩),
  (231, ⟨1, .fn, [.nilF], true, 8, 0⟩),
  (232, ⟨1, .ifc, [.nilI], false, 16, 0⟩),
  (234, ⟨1, .fn, [.nilF], true, 8, 0⟩),
  (235, ⟨24, .arr 24 5, [.int .u8, .int .u8, .int .u8, .int .u8, .int .u8, .int .u8, .int .u8, .int .u8, .int .u8, .int .u8, .int .u8, .int .u8, .int .u8, .int .u8, .int .u8, .int .u8, .int .u8, .int .u8, .int .u8, .int .u8, .int .u8, .int .u8, .int .u8, .int .u8], true, 24, 0⟩),
  (236, ⟨1, .fn, [.nilF], true, 8, 0⟩),
  (238, ⟨1, .fn, [.nilF], true, 8, 0⟩),
  (239, ⟨1, .fn, [.nilF], true, 8, 0⟩),
  (241, ⟨1, .fn, [.nilF], true, 8, 0⟩),
  (242, ⟨1, .fn, [.nilF], true, 8, 0⟩),
  (245, ⟨1, .fn, [.nilF], true, 8, 0⟩),
  (246, ⟨1, .ptr 273, [.nilP], true, 8, 0⟩),
  (247, ⟨1, .fn, [.nilF], true, 8, 0⟩),
  (248, ⟨1, .fn, [.nilF], true, 8, 0⟩),
  (249, ⟨1, .fn, [.nilF], true, 8, 0⟩),
  (250, ⟨1, .fn, [.nilF], true, 8, 0⟩),
  (251, ⟨1, .slice 257, [.nilSl], true, 24, 0⟩),
  (252, ⟨1, .slice 257, [.nilSl], true, 24, 0⟩),
  (253, ⟨1, .fn, [.nilF], true, 8, 0⟩),
  (254, ⟨1, .fn, [.nilF], true, 8, 0⟩),
  (255, ⟨1, .ptr 252, [.nilP], true, 8, 0⟩),
  (256, ⟨2, .struct [(0, 3), (1, 3)], [.int .i64, .int .i64], true, 16, 2⟩),
  (257, ⟨2, .struct [(0, 3), (1, 3)], [.int .i64, .int .i64], true, 16, 2⟩),
  (258, ⟨1, .fn, [.nilF], true, 8, 0⟩),
  (259, ⟨1, .fn, [.nilF], true, 8, 0⟩),
  (260, ⟨1, .fn, [.nilF], true, 8, 0⟩),
  (261, ⟨1, .fn, [.nilF], true, 8, 0⟩),
  (262, ⟨1, .fn, [.nilF], true, 8, 0⟩),
  (263, ⟨1, .fn, [.nilF], true, 8, 0⟩),
  (264, ⟨1, .ptr 215, [.nilP], true, 8, 0⟩),
  (265, ⟨1, .fn, [.nilF], true, 8, 0⟩),
  (266, ⟨1, .fn, [.nilF], true, 8, 0⟩),
  (267, ⟨20, .arr 20 80, [.int .u64, .int .u64, .int .u64, .int .u64, .int .u64, .int .u64, .int .u64, .int .u64, .int .u64, .int .u64, .int .u64, .int .u64, .int .u64, .int .u64, .int .u64, .int .u64, .int .u64, .int .u64, .int .u64, .int .u64], true, 160, 0⟩),
  (270, ⟨1, .fn, [.nilF], true, 8, 0⟩),
  (271, ⟨1, .fn, [.nilF], true, 8, 0⟩),
  (272, ⟨3, .struct [(0, 9), (1, 9), (2, 27)], [.str, .str, .nilI], true, 48, 0⟩),
  (273, ⟨3, .struct [(0, 9), (1, 9), (2, 27)], [.str, .str, .nilI], true, 48, 0⟩),
  (274, ⟨1, .fn, [.nilF], true, 8, 0⟩),
  (275, ⟨1, .ifc, [.nilI], false, 16, 0⟩),
  (276, ⟨1, .ifc, [.nilI], false, 16, 0⟩),
  (277, ⟨1, .fn, [.nilF], true, 8, 0⟩),
  (278, ⟨1, .fn, [.nilF], true, 8, 0⟩),
  (279, ⟨1, .fn, [.nilF], true, 8, 0⟩),
  (280, ⟨1, .fn, [.nilF], true, 8, 0⟩),
  (281, ⟨1, .fn, [.nilF], true, 8, 0⟩),
  (282, ⟨16, .arr 8 122, [.int .i64, .int .i64, .int .i64, .int .i64, .int .i64, .int .i64, .int .i64, .int .i64, .int .i64, .int .i64, .int .i64, .int .i64, .int .i64, .int .i64, .int .i64, .int .i64], true, 128, 16⟩),
  (283, ⟨1, .fn, [.nilF], true, 8, 0⟩),
  (284, ⟨1, .fn, [.nilF], true, 8, 0⟩),
  (286, ⟨2, .struct [(0, 5), (1, 5)], [.int .u8, .int .u8], true, 2, 0⟩),
  (288, ⟨32, .arr 16 287, [.int .u8, .int .u8, .int .u8, .int .u8, .int .u8, .int .u8, .int .u8, .int .u8, .int .u8, .int .u8, .int .u8, .int .u8, .int .u8, .int .u8, .int .u8, .int .u8, .int .u8, .int .u8, .int .u8, .int .u8, .int .u8, .int .u8, .int .u8, .int .u8, .int .u8, .int .u8, .int .u8, .int .u8, .int .u8, .int .u8, .int .u8, .int .u8], true, 32, 0⟩),
  (290, ⟨1, .fn, [.nilF], true, 8, 0⟩),
  (291, ⟨1, .fn, [.nilF], true, 8, 0⟩),
  (292, ⟨1, .fn, [.nilF], true, 8, 0⟩),
  (293, ⟨1, .ptr 295, [.nilP], true, 8, 0⟩),
  (294, ⟨1, .struct [(0, 9)], [.str], true, 16, 1065⟩),
  (295, ⟨1, .struct [(0, 9)], [.str], true, 16, 0⟩),
  (296, ⟨32, .arr 32 5, [.int .u8, .int .u8, .int .u8, .int .u8, .int .u8, .int .u8, .int .u8, .int .u8, .int .u8, .int .u8, .int .u8, .int .u8, .int .u8, .int .u8, .int .u8, .int .u8, .int .u8, .int .u8, .int .u8, .int .u8, .int .u8, .int .u8, .int .u8, .int .u8, .int .u8, .int .u8, .int .u8, .int .u8, .int .u8, .int .u8, .int .u8, .int .u8], true, 32, 0⟩),
  (307, ⟨1, .fn, [.nilF], true, 8, 0⟩),
  (312, ⟨1, .fn, [.nilF], true, 8, 0⟩),
  (313, ⟨1, .fn, [.nilF], true, 8, 0⟩),
  (317, ⟨2, .struct [(0, 9), (1, 27)], [.str, .nilI], true, 32, 0⟩),
  (319, ⟨2, .struct [(0, 9), (1, 156)], [.str, .nilSl], true, 40, 0⟩),
  (323, ⟨1, .int .u16, [.int .u16], true, 2, 0⟩),
  (330, ⟨1, .ptr 27, [.nilP], true, 8, 0⟩)]
theorem tabOk : TabOk Tryz.prog tab := by unfold TabOk; kernel_rfl
theorem mixOk : Tryz.prog.follows .mixedOrders = true := by kernel_rfl
noncomputable def envAt (G : List (Nat × Value)) (N n0 : Nat) : Env := ⟨Tryz.prog, tab, G, N, n0, []⟩
theorem envOk (G : List (Nat × Value)) (N n0 : Nat) : EnvOk (envAt G N n0) := ⟨tabOk, mixOk⟩
noncomputable def envCut (G : List (Nat × Value)) (N n0 : Nat) (cuts : List Nat) : Env := ⟨Tryz.prog, tab, G, N, n0, cuts⟩
theorem envCutOk (G : List (Nat × Value)) (N n0 : Nat) (cuts : List Nat) : EnvOk (envCut G N n0 cuts) := ⟨tabOk, mixOk⟩
end Go.Proofs.YtgjjooophigkoaaGreatDoor
/-
  Rasters: heights, sizes.
-/
namespace Go.Proofs.YtgjjooophigkoaaGreatDoor
open Go Go.Ab
set_option maxRecDepth 100000
abbrev int : Ty := .int .i64
abbrev RasT : Ty := .pair int (.pair int (.list int))
def bigB (h : Int) : Bool := decide (1048576 < h) || decide (h < -1048576)
theorem bif_or (a b : Bool) : (bif a then true else b) = (a || b) := by cases a <;> rfl
theorem bif_and (a b : Bool) : (bif a then b else false) = (a && b) := by cases a <;> rfl
theorem great_any (G : List (Nat × Value)) (h : Int) (K : AV → List AO → Prop) (hK : K (.fz .bool (bigB h)) []) : ACall Tryz.prog G 64 [.fz int h] [] K := by
  refine acall_mk (E := envAt G 9 0) (envOk _ _ _) Tryz.func64 rfl rfl rfl rfl rfl ?_
  (repeat' (first | exact trivial | exact fun h => h | refine And.intro ?_ ?_ | (intro hb; try simp at hb) | omega | exact rfl | exact Nat.le_refl _ | (show _ + 1 ≤ 4294967296; omega) | (dsimp only; omega) | (show (_ : Int) ≤ (_ : Int); omega) | (show _ < List.length _; simp only [List.length_set, List.length_append, List.length_take]; omega) | (show wantB _ _ = true; simp <;> omega) | (show (_ : Bool) = _; simp_all; done) | (exfalso; omega) | refine aRegion_auto (by decide +kernel) ?_ | fail))
  refine ⟨_, _, REnt.refl _ _ _, ?_⟩
  rw [bif_or]; exact hK
theorem big1_any (G : List (Nat × Value)) (h : Int) (K : AV → List AO → Prop) (hK : K (.fz .bool (bigB h)) []) : ACall Tryz.prog G 93 [.fz int h] [] K := by
  refine acall_mk (E := envAt G 9 0) (envOk _ _ _) Tryz.func93 rfl rfl rfl rfl rfl ?_
  (repeat' (first | exact trivial | exact fun h => h | refine And.intro ?_ ?_ | (intro hb; try simp at hb) | omega | exact rfl | exact Nat.le_refl _ | (show _ + 1 ≤ 4294967296; omega) | (dsimp only; omega) | (show (_ : Int) ≤ (_ : Int); omega) | (show _ < List.length _; simp only [List.length_set, List.length_append, List.length_take]; omega) | (show wantB _ _ = true; simp <;> omega) | (show (_ : Bool) = _; simp_all; done) | (exfalso; omega) | refine aRegion_auto (by decide +kernel) ?_ | fail))
  refine ⟨_, _, REnt.refl _ _ _, ?_⟩
  rw [bif_or]; exact hK
def idxF (p : Int → Bool) (xs : List Int) : Int := match xs.findIdx? p with
  | some i => (i : Nat)
  | none => -1
theorem indexFunc_any (G : List (Nat × Value)) (xs : List Int) (g : FuncId) (p : Int → Bool) (hg : ∀ h K, K (.fz .bool (p h)) [] → ACall Tryz.prog G g [.fz int h] [] K) (hl : xs.length ≤ 1000000000000) (K : AV → List AO → Prop) (hK : K (.fz int (idxF p xs)) []) :
    ACall Tryz.prog G 126 [.fz (.list int) xs, .fn g []] [] K := by
  refine acall_mk (E := envAt G 19 0) (envOk _ _ _) Tryz.func126 rfl rfl rfl rfl rfl ?_
  (repeat' (first | exact trivial | exact fun h => h | refine And.intro ?_ ?_ | (intro hb; try simp at hb) | omega | exact rfl | exact Nat.le_refl _ | (show _ + 1 ≤ 4294967296; omega) | (dsimp only; omega) | (show (_ : Int) ≤ (_ : Int); omega) | (show _ < List.length _; simp only [List.length_set, List.length_append, List.length_take]; omega) | (show wantB _ _ = true; simp <;> omega) | (show (_ : Bool) = _; simp_all; done) | (exfalso; omega) | refine aRegion_auto (by decide +kernel) ?_ | fail))
  refine ⟨Nat, fun k => ⟨[(0, .fz (.list int) xs), (1, .fn g []), (7, .fz int xs.length), (8, .fz int k)], []⟩, fun k => k ≤ xs.length ∧ ∀ j, j < k → p (xs.getD j 0) = false, fun k => xs.length - k, 0, ⟨Nat.zero_le _, fun j h => absurd h (Nat.not_lt_zero _)⟩, Ent.sub rfl ⟨rfl, rfl, rfl, rfl⟩, ?_⟩
  intro k ⟨hk, hp⟩
  (repeat' (first | exact trivial | exact fun h => h | refine And.intro ?_ ?_ | (intro hb; try simp at hb) | omega | exact rfl | exact Nat.le_refl _ | (show _ + 1 ≤ 4294967296; omega) | (dsimp only; omega) | (show (_ : Int) ≤ (_ : Int); omega) | (show _ < List.length _; simp only [List.length_set, List.length_append, List.length_take]; omega) | (show wantB _ _ = true; simp <;> omega) | (show (_ : Bool) = _; simp_all; done) | (exfalso; omega) | refine aRegion_auto (by decide +kernel) ?_ | fail))
  · refine acall_frame0 rfl (hg _ _ ?_)
    (repeat' (first | exact trivial | exact fun h => h | refine And.intro ?_ ?_ | (intro hb; try simp at hb) | omega | exact rfl | exact Nat.le_refl _ | (show _ + 1 ≤ 4294967296; omega) | (dsimp only; omega) | (show (_ : Int) ≤ (_ : Int); omega) | (show _ < List.length _; simp only [List.length_set, List.length_append, List.length_take]; omega) | (show wantB _ _ = true; simp <;> omega) | (show (_ : Bool) = _; simp_all; done) | (exfalso; omega) | refine aRegion_auto (by decide +kernel) ?_ | fail))
    · refine ⟨_, _, REnt.refl _ _ _, ?_⟩
      have : idxF p xs = k := by
        unfold idxF
        have : xs.findIdx? p = some k := by
          rw [List.findIdx?_eq_some_iff_getElem]
          refine ⟨by assumption, ?_, fun j hj => ?_⟩
          · simpa [List.getD, show k < xs.length by assumption] using hb
          · have := hp j hj
            have hlt : j < xs.length := by omega
            simpa [List.getD, hlt] using this
        rw [this]
      rw [this] at hK; exact hK
    · refine ⟨k + 1, ⟨by omega, fun j hj => ?_⟩, by show _ - _ < _ - _; omega, Ent.sub rfl ⟨rfl, rfl, rfl, rfl⟩⟩
      by_cases h : j = k
      · subst h; exact hb
      · exact hp j (by omega)
  · refine ⟨_, _, REnt.refl _ _ _, ?_⟩
    have : idxF p xs = -1 := by
      unfold idxF
      have : xs.findIdx? p = none := by
        rw [List.findIdx?_eq_none_iff]
        intro x hx
        obtain ⟨j, hj, rfl⟩ := List.getElem_of_mem hx
        have := hp j (by omega)
        simpa [List.getD, hj] using this
      rw [this]
    rw [this] at hK; exact hK
theorem containsFunc_any (G : List (Nat × Value)) (xs : List Int) (g : FuncId) (p : Int → Bool) (hg : ∀ h K, K (.fz .bool (p h)) [] → ACall Tryz.prog G g [.fz int h] [] K) (hl : xs.length ≤ 1000000000000) (K : AV → List AO → Prop) (hK : K (.fz .bool (xs.any p)) []) :
    ACall Tryz.prog G 92 [.fz (.list int) xs, .fn g []] [] K := by
  refine acall_mk (E := envAt G 9 0) (envOk _ _ _) Tryz.func92 rfl rfl rfl rfl rfl ?_
  (repeat' (first | exact trivial | exact fun h => h | refine And.intro ?_ ?_ | (intro hb; try simp at hb) | omega | exact rfl | exact Nat.le_refl _ | (show _ + 1 ≤ 4294967296; omega) | (dsimp only; omega) | (show (_ : Int) ≤ (_ : Int); omega) | (show _ < List.length _; simp only [List.length_set, List.length_append, List.length_take]; omega) | (show wantB _ _ = true; simp <;> omega) | (show (_ : Bool) = _; simp_all; done) | (exfalso; omega) | refine aRegion_auto (by decide +kernel) ?_ | fail))
  refine acall_frame0 rfl (indexFunc_any G xs g p hg hl _ ?_)
  (repeat' (first | exact trivial | exact fun h => h | refine And.intro ?_ ?_ | (intro hb; try simp at hb) | omega | exact rfl | exact Nat.le_refl _ | (show _ + 1 ≤ 4294967296; omega) | (dsimp only; omega) | (show (_ : Int) ≤ (_ : Int); omega) | (show _ < List.length _; simp only [List.length_set, List.length_append, List.length_take]; omega) | (show wantB _ _ = true; simp <;> omega) | (show (_ : Bool) = _; simp_all; done) | (exfalso; omega) | refine aRegion_auto (by decide +kernel) ?_ | fail))
  refine ⟨_, _, REnt.refl _ _ _, ?_⟩
  have : decide ((0 : Int) ≤ idxF p xs) = xs.any p := by
    unfold idxF
    cases h : xs.findIdx? p with
    | none =>
      rw [List.findIdx?_eq_none_iff] at h
      simp; intro x hx; simpa using h x hx
    | some i =>
      obtain ⟨h1, h2, _⟩ := List.findIdx?_eq_some_iff_getElem.1 h
      simp; exact ⟨_, List.getElem_mem h1, h2⟩
  rw [this]; exact hK
end Go.Proofs.YtgjjooophigkoaaGreatDoor
/-
  Rasters: are they right?
-/
namespace Go.Proofs.YtgjjooophigkoaaGreatDoor
open Go Go.Ab
set_option maxRecDepth 100000
/-- where the errors lie -/
structure Errs where
  text : Addr
  bound : Addr
  shape : Addr
  range : Addr
  name : Addr
  none : Addr
  order : Addr
  file : Addr
abbrev errV (a : Addr) : Value := .iface 293 (.pointer (some a))
abbrev GE (E : Errs) : List (Nat × Value) := [(0, errV E.shape), (3, errV E.range), (1, errV E.bound)]
/-! ### is a raster right? -/
abbrev Ras := Int × Int × List Int
/-- 0, or the number of an error -/
def rerr (a : Ras) : Nat := if 128 < a.1 ∨ 128 < a.2.1 then 2 else if a.1 < 1 ∨ a.2.1 < 1 ∨ (a.2.2.length : Int) ≠ a.1 * a.2.1 then 3 else if a.2.2.any bigB then 4 else 0
theorem mul_bd {a b A B : Int} (h1 : 0 ≤ a) (h2 : a ≤ A) (h3 : 0 ≤ b) (h4 : b ≤ B) : 0 ≤ a * b ∧ a * b ≤ A * B :=
  ⟨Int.mul_nonneg h1 h3, Int.mul_le_mul h2 h4 h3 (Int.le_trans h1 h2)⟩
theorem valid_any (E : Errs) (a : Ras) (hl : a.2.2.length ≤ 1000000000000) (K : AV → List AO → Prop)
    (h0 : rerr a = 0 → K (.fz .raw .nilIface) []) (h2 : rerr a = 2 → K (.fz .raw (errV E.bound)) []) (h3 : rerr a = 3 → K (.fz .raw (errV E.shape)) []) (h4 : rerr a = 4 → K (.fz .raw (errV E.range)) []) : ACall Tryz.prog (GE E) 42 [.fz RasT a] [] K := by
  refine acall_mk (E := envAt (GE E) 36 0) (envOk _ _ _) Tryz.func42 rfl rfl rfl rfl rfl ?_
  (repeat' (first | exact trivial | exact fun h => h | refine And.intro ?_ ?_ | (intro hb; try simp at hb) | omega | exact rfl | exact Nat.le_refl _ | (show _ + 1 ≤ 4294967296; omega) | (dsimp only; omega) | (show (_ : Int) ≤ (_ : Int); omega) | (show _ < List.length _; simp only [List.length_set, List.length_append, List.length_take]; omega) | (show wantB _ _ = true; simp <;> omega) | (show (_ : Bool) = _; simp_all; done) | (exfalso; omega) | refine aRegion_auto (by decide +kernel) ?_ | fail))
  · refine ⟨_, _, REnt.drop ⟨rfl, rfl⟩, ?_⟩
    exact h2 (by unfold rerr; rw [if_pos hb])
  · have := mul_bd (a := a.1) (b := a.2.1) (A := 128) (B := 128) (by omega) (by omega) (by omega) (by omega); omega
  · have := mul_bd (a := a.1) (b := a.2.1) (A := 128) (B := 128) (by omega) (by omega) (by omega) (by omega); omega
  · refine ⟨_, _, REnt.drop ⟨rfl, rfl⟩, ?_⟩
    exact h3 (by unfold rerr; rw [if_neg (by omega), if_pos (by omega)])
  · refine acall_frame0 rfl (containsFunc_any (GE E) a.2.2 _ bigB (big1_any (GE E)) hl _ ?_)
    (repeat' (first | exact trivial | exact fun h => h | refine And.intro ?_ ?_ | (intro hb; try simp at hb) | omega | exact rfl | exact Nat.le_refl _ | (show _ + 1 ≤ 4294967296; omega) | (dsimp only; omega) | (show (_ : Int) ≤ (_ : Int); omega) | (show _ < List.length _; simp only [List.length_set, List.length_append, List.length_take]; omega) | (show wantB _ _ = true; simp <;> omega) | (show (_ : Bool) = _; simp_all; done) | (exfalso; omega) | refine aRegion_auto (by decide +kernel) ?_ | fail))
    · refine ⟨_, _, REnt.drop ⟨rfl, rfl⟩, ?_⟩
      exact h4 (by unfold rerr; rw [if_neg (by omega), if_neg (by omega), if_pos (by simpa using hb)])
    · refine ⟨_, _, REnt.drop ⟨rfl, rfl⟩, ?_⟩
      exact h0 (by unfold rerr; rw [if_neg (by omega), if_neg (by omega), if_neg (by simpa using hb)])
end Go.Proofs.YtgjjooophigkoaaGreatDoor
/-
  The document's answer for a raster; most, least, sums.
-/
namespace Go.Proofs.YtgjjooophigkoaaGreatDoor
open Go Go.Ab
set_option maxRecDepth 100000
theorem rerr_in (a : Ras) : rerr a ≤ 4 := by unfold rerr; split; omega; split; omega; split <;> omega
theorem take_any (p : Int → Bool) (l : List Int) (k : Nat) (hk : k < l.length) : (l.take (k + 1)).any p = ((l.take k).any p || p (l.getD k 0)) := by
  rw [List.take_succ_eq_append_getElem hk, List.any_append]; simp [List.getD, hk]
theorem any_in (p : Int → Bool) (l : List Int) (k : Nat) (hk : k < l.length) (h : p (l.getD k 0) = true) : l.any p = true := by
  rw [List.any_eq_true]; exact ⟨l[k], List.getElem_mem hk, by simpa [List.getD, hk] using h⟩
theorem rasterError_any (G : List (Nat × Value)) (a : Ras) (hl : a.2.2.length ≤ 1000000000000) (K : AV → List AO → Prop) (hK : K (.fz int (rerr a)) []) :
    ACall Tryz.prog G 22 [.fptr RasT a] [] K := by
  refine acall_mk (E := envAt G 64 0) (envOk _ _ _) Tryz.func22 rfl rfl rfl rfl rfl ?_
  (repeat' (first | exact trivial | exact fun h => h | refine And.intro ?_ ?_ | (intro hb; try simp at hb) | omega | exact rfl | exact Nat.le_refl _ | (show _ + 1 ≤ 4294967296; omega) | (dsimp only; omega) | (show (_ : Int) ≤ (_ : Int); omega) | (show _ < List.length _; simp only [List.length_set, List.length_append, List.length_take]; omega) | (show wantB _ _ = true; simp <;> omega) | (show (_ : Bool) = _; simp_all; done) | (exfalso; omega) | refine aRegion_auto (by decide +kernel) ?_ | fail))
  · refine ⟨_, _, REnt.drop ⟨rfl, rfl⟩, ?_⟩
    have : rerr a = 2 := by unfold rerr; rw [if_pos hb]
    rw [this] at hK; exact hK
  · have := mul_bd (a := a.1) (b := a.2.1) (A := 128) (B := 128) (by omega) (by omega) (by omega) (by omega); omega
  · have := mul_bd (a := a.1) (b := a.2.1) (A := 128) (B := 128) (by omega) (by omega) (by omega) (by omega); omega
  · refine ⟨_, _, REnt.drop ⟨rfl, rfl⟩, ?_⟩
    have : rerr a = 3 := by unfold rerr; rw [if_neg (by omega), if_pos (by omega)]
    rw [this] at hK; exact hK
  refine ⟨Nat, fun k => ⟨[(0, .fptr RasT a), (3, .fz int k)], []⟩, fun k => k ≤ a.2.2.length ∧ (a.2.2.take k).any bigB = false, fun k => a.2.2.length - k, 0, ⟨Nat.zero_le _, rfl⟩, Ent.sub rfl ⟨rfl, rfl⟩, ?_⟩
  intro k ⟨hk, hp⟩
  (repeat' (first | exact trivial | exact fun h => h | refine And.intro ?_ ?_ | (intro hb; try simp at hb) | omega | exact rfl | exact Nat.le_refl _ | (show _ + 1 ≤ 4294967296; omega) | (dsimp only; omega) | (show (_ : Int) ≤ (_ : Int); omega) | (show _ < List.length _; simp only [List.length_set, List.length_append, List.length_take]; omega) | (show wantB _ _ = true; simp <;> omega) | (show (_ : Bool) = _; simp_all; done) | (exfalso; omega) | refine aRegion_auto (by decide +kernel) ?_ | fail))
  · refine acall_frame0 rfl (great_any G _ _ ?_)
    (repeat' (first | exact trivial | exact fun h => h | refine And.intro ?_ ?_ | (intro hb; try simp at hb) | omega | exact rfl | exact Nat.le_refl _ | (show _ + 1 ≤ 4294967296; omega) | (dsimp only; omega) | (show (_ : Int) ≤ (_ : Int); omega) | (show _ < List.length _; simp only [List.length_set, List.length_append, List.length_take]; omega) | (show wantB _ _ = true; simp <;> omega) | (show (_ : Bool) = _; simp_all; done) | (exfalso; omega) | refine aRegion_auto (by decide +kernel) ?_ | fail))
    · refine ⟨_, _, REnt.drop ⟨rfl, rfl⟩, ?_⟩
      have : rerr a = 4 := by unfold rerr; rw [if_neg (by omega), if_neg (by omega), if_pos (any_in bigB _ k (by omega) hb)]
      rw [this] at hK; exact hK
    · refine ⟨k + 1, ⟨by omega, ?_⟩, by show _ - _ < _ - _; omega, Ent.sub rfl ⟨rfl, rfl⟩⟩
      have hb : bigB (a.2.2.getD k 0) = false := hb
      rw [take_any _ _ _ (by omega), hp, hb]; rfl
  · refine ⟨_, _, REnt.drop ⟨rfl, rfl⟩, ?_⟩
    have : rerr a = 0 := by
      have hk : k = a.2.2.length := by omega
      subst hk
      rw [List.take_length] at hp
      unfold rerr; rw [if_neg (by omega), if_neg (by omega), if_neg (by simp [hp])]
    rw [this] at hK; exact hK
def maxL : List Int → Int
  | [] => 0
  | x :: l => l.foldl max x
def minL : List Int → Int
  | [] => 0
  | x :: l => l.foldl min x
theorem foldl_take (f : Int → Int → Int) (l : List Int) (k : Nat) (hk : k < l.length) (x : Int) : (l.take (k + 1)).foldl f x = f ((l.take k).foldl f x) (l.getD k 0) := by
  rw [List.take_succ_eq_append_getElem hk, List.foldl_append]; simp [List.getD, hk]
end Go.Proofs.YtgjjooophigkoaaGreatDoor
/-
  How a raster is flooded, told by numbers alone: what is taken, what waits, and that something waits until all is taken.
-/
namespace Go.Proofs.YtgjjooophigkoaaGreatDoor
open Go Go.Ab
/-! ### cells -/
theorem dm {w q c : Nat} (hc : c < w) : (w * q + c) / w = q ∧ (w * q + c) % w = c := by
  have hw : 0 < w := by omega
  rw [Nat.mul_add_div hw, Nat.mul_add_mod, Nat.mod_eq_of_lt hc, Nat.div_eq_of_lt hc]
  exact ⟨Nat.add_zero _, rfl⟩
def touchN (w i k : Nat) : Prop := i ≠ k ∧ (i % w ≤ k % w + 1 ∧ k % w ≤ i % w + 1) ∧ (i / w ≤ k / w + 1 ∧ k / w ≤ i / w + 1)
instance (w i k : Nat) : Decidable (touchN w i k) := by unfold touchN; infer_instance
def rimN (w h i : Nat) : Prop := i % w = 0 ∨ i / w = 0 ∨ i % w = w - 1 ∨ i / w = h - 1
instance (w h i : Nat) : Decidable (rimN w h i) := by unfold rimN; infer_instance
theorem touchN_symm {w i k : Nat} (h : touchN w i k) : touchN w k i := ⟨h.1.symm, ⟨h.2.1.2, h.2.1.1⟩, h.2.2.2, h.2.2.1⟩
theorem west {w i : Nat} (hw : 0 < w) (h : i % w ≠ 0) : touchN w (i - 1) i ∧ (i - 1) % w = i % w - 1 := by
  have e := Nat.div_add_mod i w
  have hm := Nat.mod_lt i hw
  have d := dm (w := w) (q := i / w) (c := i % w - 1) (by omega)
  rw [show w * (i / w) + (i % w - 1) = i - 1 by omega] at d
  refine ⟨⟨?_, ?_, ?_⟩, d.2⟩
  · intro h'
    have : i = 0 := by omega
    subst this; simp at h
  · rw [d.2]; omega
  · rw [d.1]; omega
/-! ### the flood -/
structure Fl where
  st : Nat → Nat
  fill : Nat → Int
  to : Nat → Nat
  ord : List Nat
def bestK (S : Fl) : Nat → Option Nat
  | 0 => none
  | k + 1 => match bestK S k with
    | none => if S.st k = 1 then some k else none
    | some b => if S.st k = 1 ∧ S.fill k < S.fill b then some k else some b
def fl0 (w h : Nat) (L : Nat → Int) : Fl := ⟨fun i => if rimN w h i then 1 else 0, fun i => if rimN w h i then L i else 0, fun i => i, []⟩
def flS (w : Nat) (L : Nat → Int) (S : Fl) (b : Nat) : Fl :=
  ⟨fun i => if i = b then 2 else if touchN w b i ∧ S.st i = 0 then 1 else S.st i, fun i => if touchN w b i ∧ S.st i = 0 then max (L i) (S.fill b) else S.fill i, fun i => if touchN w b i ∧ S.st i = 0 then b else S.to i, S.ord ++ [b]⟩
def flN (w h : Nat) (L : Nat → Int) : Nat → Fl
  | 0 => fl0 w h L
  | k + 1 => flS w L (flN w h L k) ((bestK (flN w h L k) (w * h)).getD 0)
def isBest (S : Fl) (n b : Nat) : Prop := b < n ∧ S.st b = 1 ∧ ∀ j, j < n → S.st j = 1 → S.fill b < S.fill j ∨ (S.fill b = S.fill j ∧ b ≤ j)
theorem bestK_spec (S : Fl) : ∀ n, match bestK S n with | none => ∀ j, j < n → S.st j ≠ 1 | some b => isBest S n b
  | 0 => by intro j hj; omega
  | n + 1 => by
    have ih := bestK_spec S n
    unfold bestK
    cases hb : bestK S n with
    | none =>
      rw [hb] at ih
      simp only at ih ⊢
      split
      · rename_i h1 h2
        split at h2
        · cases h2
        · intro j hj
          by_cases e : j = n
          · subst e; assumption
          · exact ih j (by omega)
      · rename_i b h2
        split at h2
        · rename_i h3
          cases h2
          refine ⟨by omega, h3, fun j hj hs => ?_⟩
          by_cases e : j = n
          · subst e; exact .inr ⟨rfl, Nat.le_refl _⟩
          · exact absurd hs (ih j (by omega))
        · cases h2
    | some b =>
      rw [hb] at ih
      simp only at ih ⊢
      obtain ⟨i1, i2, i3⟩ := ih
      by_cases hc : S.st n = 1 ∧ S.fill n < S.fill b
      · rw [if_pos hc]
        refine ⟨by omega, hc.1, fun j hj hs => ?_⟩
        by_cases e : j = n
        · subst e; exact .inr ⟨rfl, Nat.le_refl _⟩
        · have := i3 j (by omega) hs; omega
      · rw [if_neg hc]
        refine ⟨by omega, i2, fun j hj hs => ?_⟩
        by_cases e : j = n
        · subst e; omega
        · exact i3 j (by omega) hs
/-- what is always so -/
structure FlI (w h : Nat) (L : Nat → Int) (S : Fl) : Prop where
  le2 : ∀ i, S.st i ≤ 2
  ordin : ∀ i, i ∈ S.ord ↔ (i < w * h ∧ S.st i = 2)
  nodup : S.ord.Nodup
  rim : ∀ i, i < w * h → rimN w h i → S.st i ≠ 0
  far : ∀ i j, S.st i = 0 → touchN w j i → S.st j = 2 → j < w * h → False
  out : ∀ i, w * h ≤ i → S.st i ≠ 2
  src : ∀ i, i < w * h → S.st i ≠ 0 → (rimN w h i ∧ S.to i = i ∧ S.fill i = L i) ∨ (¬ rimN w h i ∧ touchN w (S.to i) i ∧ S.to i < w * h ∧ S.st (S.to i) = 2 ∧ S.fill i = max (L i) (S.fill (S.to i)))
  mono : ∀ i j, i < w * h → j < w * h → S.st i = 2 → S.st j = 1 → S.fill i ≤ S.fill j
theorem FlI.start (w h : Nat) (L : Nat → Int) : FlI w h L (fl0 w h L) := by
  have s : ∀ i, (fl0 w h L).st i = if rimN w h i then 1 else 0 := fun i => rfl
  refine ⟨fun i => ?_, fun i => ?_, List.nodup_nil, fun i _ hr => ?_, fun i j _ _ h2 _ => ?_, fun i _ => ?_, fun i _ h0 => ?_, fun i j _ _ h2 _ => ?_⟩
  · rw [s]; split <;> omega
  · rw [s]; constructor
    · intro h; cases h
    · intro h; exfalso; have := h.2; split at this <;> omega
  · rw [s, if_pos hr]; omega
  · rw [s] at h2; split at h2 <;> omega
  · rw [s]; split <;> omega
  · rw [s] at h0
    by_cases hr : rimN w h i
    · exact .inl ⟨hr, rfl, by show (if rimN w h i then L i else 0) = L i; rw [if_pos hr]⟩
    · rw [if_neg hr] at h0; omega
  · rw [s] at h2; split at h2 <;> omega
theorem FlI.step {w h : Nat} {L : Nat → Int} {S : Fl} (I : FlI w h L S) {b : Nat} (hb : isBest S (w * h) b) : FlI w h L (flS w L S b) := by
  obtain ⟨b1, b2, b3⟩ := hb
  have s : ∀ i, (flS w L S b).st i = if i = b then 2 else if touchN w b i ∧ S.st i = 0 then 1 else S.st i := fun i => rfl
  have f : ∀ i, (flS w L S b).fill i = if touchN w b i ∧ S.st i = 0 then max (L i) (S.fill b) else S.fill i := fun i => rfl
  have t : ∀ i, (flS w L S b).to i = if touchN w b i ∧ S.st i = 0 then b else S.to i := fun i => rfl
  have fb : (flS w L S b).fill b = S.fill b := by rw [f, if_neg (by omega)]
  have fk : ∀ i, S.st i ≠ 0 → (flS w L S b).fill i = S.fill i := fun i hi => by rw [f, if_neg (by omega)]
  have tk : ∀ i, S.st i ≠ 0 → (flS w L S b).to i = S.to i := fun i hi => by rw [t, if_neg (by omega)]
  have s2 : ∀ i, (flS w L S b).st i = 2 ↔ i = b ∨ S.st i = 2 := fun i => by
    rw [s]; split
    · rename_i h; exact ⟨fun _ => .inl h, fun _ => rfl⟩
    · rename_i h; split
      · constructor
        · intro h; omega
        · rintro (h' | h')
          · exact absurd h' h
          · omega
      · constructor
        · exact .inr
        · rintro (h' | h')
          · exact absurd h' h
          · exact h'
  have s0 : ∀ i, (flS w L S b).st i = 0 ↔ i ≠ b ∧ ¬ touchN w b i ∧ S.st i = 0 := fun i => by
    rw [s]; split
    · rename_i h; constructor
      · intro h; omega
      · intro h'; exact absurd h h'.1
    · rename_i h; split
      · rename_i h2; constructor
        · intro h; omega
        · intro h'; exact absurd h2.1 h'.2.1
      · rename_i h2; constructor
        · intro h3; exact ⟨h, fun h4 => h2 ⟨h4, h3⟩, h3⟩
        · exact fun h => h.2.2
  have hbm : b ∉ S.ord := fun hm => by have := (I.ordin b).1 hm; omega
  refine ⟨fun i => ?_, fun i => ?_, ?_, fun i hi hr => ?_, fun i j h0 ht h2 hj => ?_, fun i hi => ?_, fun i hi h0 => ?_, fun i j hi hj h2 h1 => ?_⟩
  · rw [s]; split
    · omega
    · split
      · omega
      · exact I.le2 i
  · show i ∈ S.ord ++ [b] ↔ _
    rw [List.mem_append, I.ordin, s2, List.mem_singleton]
    constructor
    · rintro (h | rfl)
      · exact ⟨h.1, .inr h.2⟩
      · exact ⟨b1, .inl rfl⟩
    · rintro ⟨h1, rfl | h2⟩
      · exact .inr rfl
      · exact .inl ⟨h1, h2⟩
  · show (S.ord ++ [b]).Nodup
    rw [List.nodup_append]
    exact ⟨I.nodup, by simp, fun a ha c hc e => by simp at hc; subst hc; subst e; exact hbm ha⟩
  · intro h0; exact I.rim i hi hr ((s0 i).1 h0).2.2
  · obtain ⟨k1, k2, k3⟩ := (s0 i).1 h0
    rcases (s2 j).1 h2 with rfl | h2
    · exact k2 ht
    · exact I.far i j k3 ht h2 hj
  · intro h2
    rcases (s2 i).1 h2 with rfl | h2
    · omega
    · exact I.out i hi h2
  · by_cases hn : S.st i = 0
    · have hnb : i ≠ b := fun e => by subst e; omega
      have hc : touchN w b i ∧ S.st i = 0 := by
        refine ⟨?_, hn⟩
        by_cases ht : touchN w b i
        · exact ht
        · exact absurd ((s0 i).2 ⟨hnb, ht, hn⟩) h0
      refine .inr ⟨fun hr => I.rim i hi hr hn, ?_⟩
      have e1 : (flS w L S b).to i = b := by rw [t, if_pos hc]
      have e2 : (flS w L S b).fill i = max (L i) (S.fill b) := by rw [f, if_pos hc]
      rw [e1, e2, fb]
      exact ⟨hc.1, b1, (s2 b).2 (.inl rfl), rfl⟩
    · rw [fk i hn, tk i hn]
      rcases I.src i hi hn with h | ⟨h1, h2, h3, h4, h5⟩
      · exact .inl h
      · refine .inr ⟨h1, h2, h3, (s2 _).2 (.inr h4), ?_⟩
        rw [fk _ (by omega)]; exact h5
  · have hj1 : j ≠ b ∧ ((touchN w b j ∧ S.st j = 0) ∨ S.st j = 1) := by
      rw [s] at h1
      split at h1
      · omega
      · rename_i hne
        refine ⟨hne, ?_⟩
        split at h1
        · rename_i hc; exact .inl hc
        · exact .inr h1
    have hfi : (flS w L S b).fill i = S.fill i ∧ S.fill i ≤ S.fill b := by
      rcases (s2 i).1 h2 with rfl | h2
      · exact ⟨fb, Int.le_refl _⟩
      · exact ⟨fk i (by omega), I.mono i b hi b1 h2 b2⟩
    rw [hfi.1]
    rcases hj1.2 with hc | hc
    · rw [f, if_pos hc]; omega
    · rw [fk j (by omega)]
      have := b3 j hj hc
      omega
/-- as long as not all is taken, something waits -/
theorem FlI.waits {w h : Nat} {L : Nat → Int} {S : Fl} (I : FlI w h L S) (hw : 0 < w) (hl : S.ord.length < w * h) : ∃ b, bestK S (w * h) = some b ∧ isBest S (w * h) b := by
  have sp := bestK_spec S (w * h)
  cases hb : bestK S (w * h) with
  | some b => rw [hb] at sp; exact ⟨b, rfl, sp⟩
  | none =>
    exfalso
    rw [hb] at sp
    simp only at sp
    -- one that is not reached
    have : ∃ i, i < w * h ∧ S.st i = 0 := by
      by_cases hall : ∃ i, i < w * h ∧ S.st i = 0
      · exact hall
      · exfalso
        have hsub : List.range (w * h) ⊆ S.ord := fun i hi => by
          have hi := List.mem_range.1 hi
          refine (I.ordin i).2 ⟨hi, ?_⟩
          have h1 := sp i hi
          have h2 := I.le2 i
          have h3 : S.st i ≠ 0 := fun h0 => hall ⟨i, hi, h0⟩
          omega
        have := List.nodup_range.length_le_of_subset hsub
        simp at this
        omega
    obtain ⟨i, hi, h0⟩ := this
    have key : ∀ c i, i % w = c → i < w * h → S.st i = 0 → False := by
      intro c
      induction c with
      | zero => intro i hc hi h0; exact I.rim i hi (.inl hc) h0
      | succ c ih =>
        intro i hc hi h0
        obtain ⟨h1, h2⟩ := west (i := i) hw (by omega)
        have hlt : i - 1 < w * h := by omega
        refine ih (i - 1) (by omega) hlt ?_
        have k1 := sp (i - 1) hlt
        have k2 := I.le2 (i - 1)
        have k3 : S.st (i - 1) ≠ 2 := fun h3 => I.far i (i - 1) h0 h1 h3 hlt
        omega
    exact key _ i rfl hi h0
theorem flN_ok (w h : Nat) (L : Nat → Int) (hw : 0 < w) : ∀ k, k ≤ w * h → FlI w h L (flN w h L k) ∧ (flN w h L k).ord.length = k
  | 0, _ => ⟨FlI.start w h L, rfl⟩
  | k + 1, hk => by
    obtain ⟨I, hl⟩ := flN_ok w h L hw k (by omega)
    obtain ⟨b, h1, h2⟩ := I.waits hw (by omega)
    have e : flN w h L (k + 1) = flS w L (flN w h L k) b := by
      show flS w L (flN w h L k) ((bestK (flN w h L k) (w * h)).getD 0) = _
      rw [h1]; rfl
    rw [e]
    refine ⟨I.step h2, ?_⟩
    show ((flN w h L k).ord ++ [b]).length = _
    simp [hl]
theorem flN_best (w h : Nat) (L : Nat → Int) (hw : 0 < w) {k : Nat} (hk : k < w * h) : ∃ b, bestK (flN w h L k) (w * h) = some b ∧ isBest (flN w h L k) (w * h) b ∧ flN w h L (k + 1) = flS w L (flN w h L k) b := by
  obtain ⟨I, hl⟩ := flN_ok w h L hw k (by omega)
  obtain ⟨b, h1, h2⟩ := I.waits hw (by omega)
  refine ⟨b, h1, h2, ?_⟩
  show flS w L (flN w h L k) ((bestK (flN w h L k) (w * h)).getD 0) = _
  rw [h1]; rfl
/-- all are taken -/
abbrev flD (w h : Nat) (L : Nat → Int) : Fl := flN w h L (w * h)
theorem flD_all (w h : Nat) (L : Nat → Int) (hw : 0 < w) : ∀ i, i < w * h → (flD w h L).st i = 2 := by
  intro i hi
  obtain ⟨I, hl⟩ := flN_ok w h L hw (w * h) (Nat.le_refl _)
  have hl : (flD w h L).ord.length = w * h := hl
  have hp : (flD w h L).ord.Perm (List.range (w * h)) := by
    refine (List.perm_ext_iff_of_nodup I.nodup List.nodup_range).2 fun a => ?_
    constructor
    · intro ha; exact List.mem_range.2 ((I.ordin a).1 ha).1
    · intro ha
      by_cases hin : a ∈ (flD w h L).ord
      · exact hin
      · exfalso
        have hsub : a :: (flD w h L).ord ⊆ List.range (w * h) := fun x hx => by
          rcases List.mem_cons.1 hx with rfl | hx
          · exact ha
          · exact List.mem_range.2 ((I.ordin x).1 hx).1
        have := (List.nodup_cons.2 ⟨hin, I.nodup⟩).length_le_of_subset hsub
        simp at this
        omega
  exact ((I.ordin i).1 (hp.mem_iff.2 (List.mem_range.2 hi))).2
end Go.Proofs.YtgjjooophigkoaaGreatDoor
/-
  The same numbers, in each package of statements that asks it; small helps.
-/
namespace Go.Proofs.YtgjjooophigkoaaGreatDoor
open Go Go.Ab
set_option maxRecDepth 100000
theorem kbl {K : AV → List AO → Prop} {b b' : Bool} {A : List AO} (h : K (.fz .bool b) A) (e : b = b') : K (.fz .bool b') A := e ▸ h
theorem sameInts_mercatorlaw3 (G : List (Nat × Value)) (xs ys : List Int) (hl : xs.length ≤ 1000000000000) (K : AV → List AO → Prop) (hK : K (.fz .bool (decide (xs = ys))) []) :
    ACall Tryz.prog G 56 [.fz (.list int) xs, .fz (.list int) ys] [] K := by
  refine acall_mk (E := envAt G 26 0) (envOk _ _ _) Tryz.func56 rfl rfl rfl rfl rfl ?_
  (repeat' (first | exact trivial | exact fun h => h | refine And.intro ?_ ?_ | (intro hb; try simp at hb) | omega | exact rfl | exact Nat.le_refl _ | (show _ + 1 ≤ 4294967296; omega) | (dsimp only; omega) | (show (_ : Int) ≤ (_ : Int); omega) | (show _ < List.length _; simp only [List.length_set, List.length_append, List.length_take]; omega) | (show wantB _ _ = true; simp <;> omega) | (show (_ : Bool) = _; simp_all; done) | (exfalso; omega) | refine aRegion_auto (by decide +kernel) ?_ | fail))
  · refine ⟨_, _, REnt.drop ⟨rfl, rfl⟩, ?_⟩
    have : decide (xs = ys) = false := by simp; intro h; subst h; exact hb rfl
    rw [this] at hK; exact hK
  refine ⟨Nat, fun k => ⟨[(0, .fz (.list int) xs), (1, .fz (.list int) ys), (5, .fz int k)], []⟩, fun k => k ≤ xs.length ∧ ∀ j, j < k → xs.getD j 0 = ys.getD j 0, fun k => xs.length - k, 0, ⟨Nat.zero_le _, fun j h => absurd h (Nat.not_lt_zero _)⟩, Ent.sub rfl ⟨rfl, rfl, rfl⟩, ?_⟩
  intro k ⟨hk, hp⟩
  (repeat' (first | exact trivial | exact fun h => h | refine And.intro ?_ ?_ | (intro hb; try simp at hb) | omega | exact rfl | exact Nat.le_refl _ | (show _ + 1 ≤ 4294967296; omega) | (dsimp only; omega) | (show (_ : Int) ≤ (_ : Int); omega) | (show _ < List.length _; simp only [List.length_set, List.length_append, List.length_take]; omega) | (show wantB _ _ = true; simp <;> omega) | (show (_ : Bool) = _; simp_all; done) | (exfalso; omega) | refine aRegion_auto (by decide +kernel) ?_ | fail))
  · refine ⟨_, _, REnt.drop ⟨rfl, rfl⟩, ?_⟩
    have : decide (xs = ys) = false := by
      simp; intro h; subst h
      exact hb rfl
    rw [this] at hK; exact hK
  · refine ⟨k + 1, ⟨by omega, fun j hj => ?_⟩, by show _ - _ < _ - _; omega, Ent.sub rfl ⟨rfl, rfl, rfl⟩⟩
    by_cases h : j = k
    · subst h; exact hb
    · exact hp j (by omega)
  · refine ⟨_, _, REnt.drop ⟨rfl, rfl⟩, ?_⟩
    have : decide (xs = ys) = true := by
      simp
      refine List.ext_getElem (by omega) fun i h1 h2 => ?_
      have := hp i (by omega)
      simpa [List.getD, h1, h2] using this
    rw [this] at hK; exact hK
theorem sameInts_mercatorlaw4 (G : List (Nat × Value)) (xs ys : List Int) (hl : xs.length ≤ 1000000000000) (K : AV → List AO → Prop) (hK : K (.fz .bool (decide (xs = ys))) []) :
    ACall Tryz.prog G 28 [.fz (.list int) xs, .fz (.list int) ys] [] K := by
  refine acall_mk (E := envAt G 26 0) (envOk _ _ _) Tryz.func28 rfl rfl rfl rfl rfl ?_
  (repeat' (first | exact trivial | exact fun h => h | refine And.intro ?_ ?_ | (intro hb; try simp at hb) | omega | exact rfl | exact Nat.le_refl _ | (show _ + 1 ≤ 4294967296; omega) | (dsimp only; omega) | (show (_ : Int) ≤ (_ : Int); omega) | (show _ < List.length _; simp only [List.length_set, List.length_append, List.length_take]; omega) | (show wantB _ _ = true; simp <;> omega) | (show (_ : Bool) = _; simp_all; done) | (exfalso; omega) | refine aRegion_auto (by decide +kernel) ?_ | fail))
  · refine ⟨_, _, REnt.drop ⟨rfl, rfl⟩, ?_⟩
    have : decide (xs = ys) = false := by simp; intro h; subst h; exact hb rfl
    rw [this] at hK; exact hK
  refine ⟨Nat, fun k => ⟨[(0, .fz (.list int) xs), (1, .fz (.list int) ys), (5, .fz int k)], []⟩, fun k => k ≤ xs.length ∧ ∀ j, j < k → xs.getD j 0 = ys.getD j 0, fun k => xs.length - k, 0, ⟨Nat.zero_le _, fun j h => absurd h (Nat.not_lt_zero _)⟩, Ent.sub rfl ⟨rfl, rfl, rfl⟩, ?_⟩
  intro k ⟨hk, hp⟩
  (repeat' (first | exact trivial | exact fun h => h | refine And.intro ?_ ?_ | (intro hb; try simp at hb) | omega | exact rfl | exact Nat.le_refl _ | (show _ + 1 ≤ 4294967296; omega) | (dsimp only; omega) | (show (_ : Int) ≤ (_ : Int); omega) | (show _ < List.length _; simp only [List.length_set, List.length_append, List.length_take]; omega) | (show wantB _ _ = true; simp <;> omega) | (show (_ : Bool) = _; simp_all; done) | (exfalso; omega) | refine aRegion_auto (by decide +kernel) ?_ | fail))
  · refine ⟨_, _, REnt.drop ⟨rfl, rfl⟩, ?_⟩
    have : decide (xs = ys) = false := by
      simp; intro h; subst h
      exact hb rfl
    rw [this] at hK; exact hK
  · refine ⟨k + 1, ⟨by omega, fun j hj => ?_⟩, by show _ - _ < _ - _; omega, Ent.sub rfl ⟨rfl, rfl, rfl⟩⟩
    by_cases h : j = k
    · subst h; exact hb
    · exact hp j (by omega)
  · refine ⟨_, _, REnt.drop ⟨rfl, rfl⟩, ?_⟩
    have : decide (xs = ys) = true := by
      simp
      refine List.ext_getElem (by omega) fun i h1 h2 => ?_
      have := hp i (by omega)
      simpa [List.getD, h1, h2] using this
    rw [this] at hK; exact hK
end Go.Proofs.YtgjjooophigkoaaGreatDoor
