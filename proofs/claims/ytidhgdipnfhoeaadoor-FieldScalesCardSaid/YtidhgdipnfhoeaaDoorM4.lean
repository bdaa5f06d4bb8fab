/-
  A box's nil slice as a slice of one's own.
-/
import Derived.Test.YtidhgdipnfhoeaaDoorM3
import Derived.ChangeShapes
import Derived.WideShapes
import Derived.Deep.Slices
import Derived.Below
import Derived.LaidLaws
import Derived.Test.YtidhgdipnfhoeaaDoorChecked
import Derived.KernelRfl
import Derived.WalkKit
import Derived.LaidEql
import Derived.Stop.Asserts
import Derived.RowKitTokens
namespace Go.Ab
open Go
def Cx.rebox (c : Cx) (tok : Nat) (vs : List AV) : Cx := { c with A := c.A.set tok (.box vs) }
theorem rebox_sound {c : Cx} (H : HR c) {tok : Nat} {vs vs' : List AV} (h0 : c.A[tok]? = some (.box vs)) (hr : ∀ b cs et, c.ρ tok = some b → c.w.heap[b]? = some (.cells (List.toArray cs) et (0, 0)) → RelL c vs cs → RelL c vs' cs) : Ext c (c.rebox tok vs') ∧ HR (c.rebox tok vs') := by
  have hlt := get_lt h0
  have new : (c.rebox tok vs').A[tok]? = some (.box vs') := by show (c.A.set tok _)[tok]? = _; rw [List.getElem?_set_self hlt]
  have old : ∀ t, t ≠ tok → (c.rebox tok vs').A[t]? = c.A[t]? := fun t h => by show (c.A.set tok _)[t]? = _; rw [List.getElem?_set_ne (by omega)]
  have hl : ∀ t, (c.rebox tok vs').live t → c.live t := by
    intro t ⟨o, h1, h2⟩
    by_cases h : t = tok
    · subst h; exact ⟨_, h0, rfl⟩
    · rw [old t h] at h1; exact ⟨o, h1, h2⟩
  have hI : ∀ b, c.I b → (c.rebox tok vs').I b := fun b h => ⟨h.1, fun t ht => h.2 t (hl t ht)⟩
  have E : Ext c (c.rebox tok vs') := by
    refine ⟨⟨fun b h _ => ⟨hI b h, rfl⟩, fun t ht => ?_, by show _ ≤ (c.A.set tok _).length; simp⟩, rfl, rfl, fun b _ => rfl, ⟨rfl, rfl, rfl⟩⟩
    by_cases h : t = tok
    · subst h; unfold TokLe; rw [new]; exact .inl ⟨⟨_, h0⟩, rfl⟩
    · have := TokLe.refl ht
      unfold TokLe at *
      rw [old t h]; exact this
  refine ⟨E, ⟨fun t b ht hb => H.far t b (hl t ht) hb, fun t u b ht hu h1 h2 => H.inj t u b (hl t ht) (hl u hu) h1 h2, fun t o h => ?_, H.old, fun g v h => ?_⟩⟩
  · by_cases ht : t = tok
    · subst ht
      rw [new] at h; cases h
      obtain ⟨b, cs, et, h1, h2, h3⟩ := H.obj t _ h0
      exact ⟨b, cs, et, h1, h2, (hr b cs et h1 h2 h3).ext E⟩
    · rw [old t ht] at h
      exact objOk_ext E (H.obj t o h) (fun _ _ _ => rfl)
  · exact (H.glo g v h).mono fun b hb _ => ⟨hI b hb, rfl⟩
theorem Ent.nilBox {n0 : Nat} {T : List (Nat × AV)} {A : List AO} {vs : List AV} (tok i : Nat) (e : Ty) (h0 : A[tok]? = some (.box vs)) (hi : vs[i]? = some .nilSl) :
    Ent n0 ⟨T, A⟩ ⟨T, List.set (A ++ [AO.row e []]) tok (.box (vs.set i (.ref A.length 0 0)))⟩ := fun c H hA hn tmps ht => by
  have hA : c.A = A := hA
  subst hA
  obtain ⟨k1, k2, k3⟩ := nilRow_sound H e
  have h1 : (c.nilRow e).A[tok]? = some (.box vs) := by show (c.A ++ [AO.row e []])[tok]? = _; rw [List.getElem?_append_left (get_lt h0)]; exact h0
  obtain ⟨j1, j2⟩ := rebox_sound (vs' := vs.set i (.ref c.A.length 0 0)) k2 h1 (fun _ cs _ _ _ hcs => by
    refine RelL.of_get _ _ (by rw [hcs.length, List.length_set]) fun j a v ha hv => ?_
    by_cases hij : j = i
    · subst hij
      rw [List.getElem?_set_self (get_lt hi)] at ha
      cases ha
      obtain ⟨u, hu, hr⟩ := RelL.get _ _ j _ hcs hi
      rw [hv] at hu; cases hu
      unfold Rel at hr
      rw [hr]; exact k3
    · rw [List.getElem?_set_ne (by omega)] at ha
      obtain ⟨u, hu, hr⟩ := RelL.get _ _ j _ hcs ha
      rw [hv] at hu; cases hu
      exact hr)
  exact ⟨(c.nilRow e).rebox tok (vs.set i (.ref c.A.length 0 0)), rfl, (k1.trans j1).toN' hn, j2, rfl, (fun n => (ht n).ext (k1.trans j1))⟩
/-- own slices within a box, as data for good -/
theorem Ent.datBox {n0 : Nat} {T : List (Nat × AV)} {A : List AO} {vs l : List AV} {A' : List AO} {C : Option Prop} (tok : Nat) (h0 : A[tok]? = some (.box vs)) (he : frz A vs = (C, l, A')) (hC : Hold C) (h1 : A'[tok]? = some (.box vs)) :
    Ent n0 ⟨T, A⟩ ⟨T, List.set A' tok (.box l)⟩ := fun c H hA hn tmps ht => by
  have hA : c.A = A := hA
  subst hA
  obtain ⟨b, cs, et, g1, g2, g3⟩ := H.obj tok _ h0
  obtain ⟨c', k1, k2, k3, k4, k5⟩ := frz_sound vs c cs H g3 (by rw [he]; exact hC)
  rw [he] at k4 k5
  have hA' : c'.A = A' := k4
  obtain ⟨j1, j2⟩ := rebox_sound (tok := tok) (vs' := l) k3 (by rw [hA']; exact h1) (fun b' cs' et' hb hh _ => by
    rw [k1.ρ, g1] at hb; cases hb
    rw [k1.w, g2] at hh
    have : cs = cs' := by
      have := Option.some.inj hh
      injection this with this
      exact congrArg Array.toList this
    rw [← this]; exact k5)
  refine ⟨c'.rebox tok l, k1.w, (k2.trans j1).toN' hn, j2, ?_, (fun n => (ht n).ext (k2.trans j1))⟩
  show c'.A.set tok _ = _
  rw [hA']
end Go.Ab
/-
  Regions that draw their order: the pairs that must be looked at, computed.
-/
namespace Go.Ab
open Go
def pairsAt (M E : List Nat) (i : Nat) : List Nat → List (Nat × Nat)
  | [] => []
  | k :: ks => match okK M i k E 0 && !Nat.beq k (cntE E i) with
    | true => (i, k) :: pairsAt M E i ks
    | false => pairsAt M E i ks
def pairsOf (M E : List Nat) (ks : List Nat) : List Oper → Nat → List (Nat × Nat)
  | [], _ => []
  | o :: os, i => match isEff o.op with
    | true => pairsOf M E ks os (i + 1)
    | false => match memless o.op with
      | true => pairsOf M E ks os (i + 1)
      | false => pairsAt M E i ks ++ pairsOf M E ks os (i + 1)
def autoX (L : List Oper) : List (Nat × Nat) := pairsOf (amask L []) (effsOf L 0) (List.range ((effsOf L 0).length + 1)) L 0
def drawnQ (P : Program) (D : Tab) (G : List (Nat × Value)) (L : List Oper) (A : List AO) (Q : List (Nat × AV) → List AO → Prop) (X : List (Nat × Nat)) (tr : List Rc) (T' : List (Nat × AV)) (A' : List AO) : Prop := match X with
  | [] => Q T' A'
  | X => extras P D G L tr (asL tr A) X ∧ Q T' A'
theorem exEff {p q : AV → List AO → Prop} {v0 : AV} {A0 : List AO} (h1 : p v0 A0) (h2 : q v0 A0) : ∃ v0 A0, p v0 A0 ∧ q v0 A0 := ⟨v0, A0, h1, h2⟩
theorem aRegion_auto {P : Program} {D : Tab} {G : List (Nat × Value)} {N : Nat} {L : List Oper} {T : List (Nat × AV)} {A : List AO} {Q : List (Nat × AV) → List AO → Prop} (h1 : drawB L (autoX L) = true)
    (h2 : aDraw P D G N L L T A [] (drawnQ P D G L A Q (autoX L))) : aRegion P D G N L T A Q := .inl ⟨autoX L, h1, h2⟩
/-- the same, the pairs written out -/
theorem aRegion_lit {P : Program} {D : Tab} {G : List (Nat × Value)} {N : Nat} {L : List Oper} {T : List (Nat × AV)} {A : List AO} {Q : List (Nat × AV) → List AO → Prop} (X : List (Nat × Nat)) (h1 : drawB L X = true)
    (h2 : aDraw P D G N L L T A [] (drawnQ P D G L A Q X)) : aRegion P D G N L T A Q := .inl ⟨X, h1, h2⟩
/-- .. whose effects have no order: what there is when some of them have come (S: the bits of the effects that have) -/
theorem aRegion_open {P : Program} {D : Tab} {G : List (Nat × Value)} {N : Nat} {L : List Oper} {T : List (Nat × AV)} {A : List AO} {Q : List (Nat × AV) → List AO → Prop} (n : Nat) (h1 : drawM2 L (amask L []) (effsOf L 0) = true)
    (h2 : aDraw2 P D G N L L T (A ++ nilRows n) [] fun tr T' A' => ∃ S, lkS 0 S = some (A ++ nilRows n) ∧ lkS (fullM (effsOf L 0)) S = some A' ∧ stAll P D G L (amask L []) (effsOf L 0) S tr S ∧ Q T' A') : aRegion P D G N L T A Q := .inr ⟨h1, n, h2⟩
theorem aRegion_openL {P : Program} {D : Tab} {G : List (Nat × Value)} {N : Nat} {L : List Oper} {T : List (Nat × AV)} {A : List AO} {Q : List (Nat × AV) → List AO → Prop} (M E : List Nat) (n : Nat) (h0 : amask L [] = M ∧ effsOf L 0 = E) (h1 : drawM2 L M E = true)
    (h2 : aDraw2 P D G N L L T (A ++ nilRows n) [] fun tr T' A' => ∃ S, lkS 0 S = some (A ++ nilRows n) ∧ lkS (fullM E) S = some A' ∧ stAll P D G L M E S tr S ∧ Q T' A') : aRegion P D G N L T A Q := by
  obtain ⟨rfl, rfl⟩ := h0
  exact .inr ⟨h1, n, h2⟩
theorem eff_is {p : AV → List AO → Prop} (v0 : AV) (A0 : List AO) (h : p v0 A0) : ∃ v0 A0, p v0 A0 := ⟨v0, A0, h⟩
theorem view_of {m : Nat} {v v' : AV} {A' A'' : List AO} (p : List Nat) (h1 : viewB p m A' A'' = true) (h2 : RenA p A' A''.length 0 A'') (h3 : v = v'.map (nameOf p)) (h4 : v'.okB A''.length = true) : View m v A' v' A'' := ⟨p, h1, h2, h3, h4⟩
/-- arguments written otherwise -/
theorem acall_arg {P : Program} {G : List (Nat × Value)} {f : FuncId} {args args' : List AV} {A : List AO} {K : AV → List AO → Prop} (h : ACall P G f args' A K) (he : args' = args) : ACall P G f args A K := he ▸ h
end Go.Ab
/-
  What a claim hands over, read as data of a type.
-/
namespace Go.Ab
open Go Go.RowKit
def opB (D : Tab) : Nat → TypeId → Ty → Bool
  | 0, _, _ => false
  | n + 1, t, ty => Nat.beq (tsz D t) ty.size && Nat.blt 0 ty.size && match ty with
    | .int k => decide (tkind D t = some k)
    | .bool => tbool D t
    | .str => tstr D t
    | .list e => match telem D t with
      | some e' => opB D n e' e
      | none => false
    | .one a => match tlook D t with
      | some ⟨_, .struct [(o, t0)], _, _, _⟩ => Nat.beq o 0 && opB D n t0 a
      | _ => false
    | .pair a b => match tlook D t with
      | some ⟨_, .struct fs, _, _, _⟩ => opFs fs (.pair a b) 0 (opB D n)
      | _ => false
    | _ => false
where
  opFs : List (Nat × TypeId) → Ty → Nat → (TypeId → Ty → Bool) → Bool
    | [(o, t)], ty, k, p => Nat.beq o k && p t ty
    | (o, t) :: y :: fs, .pair a b, k, p => Nat.beq o k && p t a && opFs (y :: fs) b (k + a.size) p
    | _, _, _, _ => false
/-- what numbers of a kind, what lengths there are -/
def Ty.inB : (t : Ty) → t.den → Prop
  | .int k, x => k.min ≤ x ∧ x ≤ k.max
  | .str, x => x.size ≤ maxLen
  | .one a, x => a.inB x
  | .pair a b, x => a.inB x.1 ∧ b.inB x.2
  | .list e, x => List.length x ≤ maxLen ∧ ∀ i (h : i < List.length x), e.inB x[i]
  | _, _ => True
section
variable {H : Type} {enc : TypeId × Value → H} {P : Program} {w : World} {base : Nat} {spare : Nat → Bool} {held : Bool}
theorem cellsOf_tsz {D : Tab} (hD : TabOk P D) {t : TypeId} {n : Nat} (h : tsz D t = n) (hn : 0 < n) : P.cellsOf t = n := by
  unfold tsz at h
  cases hi : tlook D t with
  | none => rw [hi] at h; simp at h; omega
  | some e =>
    rw [hi] at h
    obtain ⟨i, d, h1, _, h3, _⟩ := tlook_info hD hi
    unfold Program.cellsOf
    rw [h1]
    simp only [Option.map_some, Option.getD_some]
    rw [h3]; exact h
theorem opB_size {D : Tab} (hD : TabOk P D) {n : Nat} {t : TypeId} {ty : Ty} (h : opB D n t ty = true) : P.cellsOf t = ty.size ∧ 0 < ty.size := by
  cases n with
  | zero => cases h
  | succ n =>
    unfold opB at h
    simp only [Bool.and_eq_true] at h
    have h2 := blt_of h.1.2
    exact ⟨cellsOf_tsz hD (beq_eq h.1.1) h2, h2⟩
theorem of_tstruct {D : Tab} (hD : TabOk P D) {t : TypeId} {sz bt : Nat} {l : List (Nat × Nat)} {z : List Z} {b : Bool} (h : tlook D t = some ⟨sz, .struct l, z, b, bt⟩) : ∃ fs : Array Field, P.underlying t = some (.struct fs) ∧ fs.toList.map (fun f => (f.offset, f.type)) = l := by
  obtain ⟨i, d, _, h2, _, h4, _⟩ := tlook_info hD h
  cases d <;> try (cases h4; done)
  rename_i fs
  simp only [tiIs, decide_eq_true_eq] at h4
  exact ⟨fs, h2, h4⟩
/-- the fields from one on -/
theorem open_fs {D : Tab} {n : Nat} {fuel : Nat} {cs : List Value} (ih : ∀ t ty, opB D n t ty = true → ∀ cs x, DataW.trod enc P w base spare held fuel t cs = some x → ∃ y : ty.den, FzC (fun _ => True) w ty y cs ∧ ty.inB y)
    (hsz : ∀ t ty, opB D n t ty = true → P.cellsOf t = ty.size) : ∀ (fs : List (Nat × TypeId)) (ty : Ty) (k : Nat), opB.opFs fs ty k (opB D n) = true → k + ty.size = cs.length →
    (∀ p ∈ fs, ∃ x, DataW.trod enc P w base spare held fuel p.2 ((cs.drop p.1).take (P.cellsOf p.2)) = some x) → ∃ y : ty.den, FzC (fun _ => True) w ty y (cs.drop k) ∧ ty.inB y
  | [], ty, k, h, _, _ => by unfold opB.opFs at h; cases h
  | [(o, t)], ty, k, h, hk, hall => by
    unfold opB.opFs at h
    simp only [Bool.and_eq_true] at h
    have ho := beq_eq h.1
    subst ho
    obtain ⟨x, hx⟩ := hall (o, t) (by simp)
    simp only at hx
    rw [hsz t ty h.2] at hx
    have hl : (cs.drop o).length = ty.size := by simp; omega
    rw [List.take_of_length_le (by omega)] at hx
    exact ih t ty h.2 _ x hx
  | (o, t) :: y :: fs, ty, k, h, hk, hall => by
    cases ty <;> try (unfold opB.opFs at h; cases h; done)
    rename_i a b
    unfold opB.opFs at h
    simp only [Bool.and_eq_true] at h
    obtain ⟨⟨ho, ha⟩, hr⟩ := h
    have ho := beq_eq ho
    subst ho
    obtain ⟨x, hx⟩ := hall (o, t) (by simp)
    simp only at hx
    rw [hsz t a ha] at hx
    obtain ⟨u, hu, hub⟩ := ih t a ha _ x hx
    have hk' : o + (a.size + b.size) = cs.length := hk
    obtain ⟨v, hv, hvb⟩ := open_fs ih hsz (y :: fs) b (o + a.size) hr (by omega) (fun p hp => hall p (List.mem_cons_of_mem _ hp))
    refine ⟨(u, v), ⟨(cs.drop o).take a.size, cs.drop (o + a.size), ?_, hu, hv⟩, hub, hvb⟩
    rw [← List.drop_drop, List.take_append_drop]
theorem open_ty {D : Tab} (hD : TabOk P D) : ∀ (n : Nat) (t : TypeId) (ty : Ty), opB D n t ty = true → ∀ fuel cs x, DataW.trod enc P w base spare held fuel t cs = some x → ∃ y : ty.den, FzC (fun _ => True) w ty y cs ∧ ty.inB y
  | 0, _, _, h => by cases h
  | n + 1, t, ty, h => by
    intro fuel cs x hx
    have hS := opB_size hD h
    unfold opB at h
    simp only [Bool.and_eq_true] at h
    obtain ⟨_, h⟩ := h
    have fields : ∀ (sz bt : Nat) (l : List (Nat × Nat)) (z : List Z) (b : Bool), tlook D t = some ⟨sz, .struct l, z, b, bt⟩ → ∃ m, fuel = m + 1 ∧ cs.length = ty.size ∧ ∀ p ∈ l, ∃ x, DataW.trod enc P w base spare held m p.2 ((cs.drop p.1).take (P.cellsOf p.2)) = some x := by
      intro sz bt l z b hl
      obtain ⟨fs, h1, h2⟩ := of_tstruct hD hl
      obtain ⟨xs, m, hm, _, hlen, hxs, hf⟩ := DataW.trod_struct h1 hx
      refine ⟨m, hm, hlen.trans hS.1, fun p hp => ?_⟩
      rw [← h2] at hp
      obtain ⟨f, hf1, rfl⟩ := List.mem_map.1 hp
      obtain ⟨i, hi, rfl⟩ := List.getElem_of_mem hf1
      have hi' : i < fs.size := by simpa using hi
      have := hf i fs.toList[i] (by simp [Array.getElem?_eq_getElem hi'])
      rw [List.getElem?_eq_getElem (by omega)] at this
      exact ⟨_, this⟩
    cases ty with
    | int k =>
      simp only [decide_eq_true_eq] at h
      obtain ⟨m, rfl, _, hw⟩ := DataW.trod_int (of_tkind hD h) hx
      unfold Lit.wf at hw
      simp only [Bool.and_eq_true, decide_eq_true_eq] at hw
      exact ⟨m, rfl, hw⟩
    | bool =>
      obtain ⟨b, rfl, _⟩ := DataW.trod_bool (of_tbool hD h) hx
      exact ⟨b, rfl, trivial⟩
    | str =>
      obtain ⟨s, rfl, _, hs⟩ := DataW.trod_string (of_tstr hD h) hx
      exact ⟨s, rfl, hs⟩
    | flt k => cases h
    | raw => cases h
    | arr m e => cases h
    | one a =>
      simp only at h
      split at h
      · rename_i sz o t0 z b bt hl
        simp only [Bool.and_eq_true] at h
        have ho := beq_eq h.1
        subst ho
        obtain ⟨m, hm, hlen, hall⟩ := fields _ _ _ _ _ hl
        obtain ⟨x', hx'⟩ := hall (0, t0) (by simp)
        simp only [List.drop_zero] at hx'
        rw [(opB_size hD h.2).1, List.take_of_length_le (by rw [hlen]; exact Nat.le_refl _)] at hx'
        obtain ⟨y, h1, h2⟩ := open_ty hD n t0 a h.2 m cs x' hx'
        exact ⟨y, h1, h2⟩
      · cases h
    | pair a b =>
      simp only at h
      split at h
      · rename_i sz fs z bb bt hl
        obtain ⟨m, hm, hlen, hall⟩ := fields _ _ _ _ _ hl
        have := open_fs (cs := cs) (fun t ty ht cs x hx => open_ty hD n t ty ht m cs x hx) (fun t ty ht => (opB_size hD ht).1) fs (.pair a b) 0 h (by rw [hlen]; omega) hall
        simpa using this
      · cases h
    | list e =>
      simp only at h
      cases he : telem D t with
      | none => rw [he] at h; cases h
      | some e' =>
        rw [he] at h
        simp only at h
        obtain ⟨hs, hs0⟩ := opB_size hD h
        rcases Deep.open_slice (of_telem hD he) hx with ⟨rfl, _⟩ | ⟨a, len, cap, m, n', Df, Pl, rfl, hb, hle, hcap, hm, _, hall⟩
        · exact ⟨[], ⟨none, 0, rfl, Nat.le_refl _, fun i hi => absurd hi (Nat.not_lt_zero _)⟩, Nat.zero_le _, fun i hi => absurd hi (Nat.not_lt_zero _)⟩
        · have hmle : len ≤ m := by rw [hm]; split <;> omega
          have key : ∀ i, i < len → ∃ y : e.den, e.inB y ∧ ∃ cs', FzC (fun _ => True) w e y cs' ∧ ∀ j (hj : j < cs'.length), w.cell? ⟨a.block, a.off + i * e.size + j, none⟩ = some cs'[j] := by
            intro i hi
            obtain ⟨cs', h1, h2⟩ := hall i (by omega)
            obtain ⟨y, hy, hyb⟩ := open_ty hD n e' e h n' cs' _ h2
            refine ⟨y, hyb, cs', hy, fun j hj => ?_⟩
            obtain ⟨_, hl, hc⟩ := World.cells?_some h1
            rw [hs] at hl hc
            have h0 := hc 0 hs0
            have hz : 0 < cs'.length := by omega
            have := hc j (by omega)
            rw [List.getElem?_eq_getElem hj] at this
            have hsp := World.cell?_spot this
            unfold Addr.add at this hsp
            obtain ⟨ab, ao, asp⟩ := a
            by_cases hi0 : i * e.size = 0
            · rw [if_pos hi0] at this hsp
              by_cases hj0 : j = 0
              · subst hj0
                simp only [if_true] at this hsp
                subst hsp
                rw [hi0]; exact this
              · rw [if_neg hj0] at this
                simp only at this ⊢
                rw [hi0]; exact this
            · rw [if_neg hi0] at this hsp
              by_cases hj0 : j = 0
              · subst hj0
                simp only [if_true] at this
                exact this
              · rw [if_neg hj0] at this
                exact this
          letI : Inhabited e.den := ⟨e.dft⟩
          obtain ⟨f, hf⟩ := Deep.choose_lt key
          refine ⟨(List.range len).map f, ⟨some a, cap, by simp, by simpa using hle, fun i hi => ?_⟩, by simp; omega, fun i hi => ?_⟩
          · have hi' : i < len := by simpa using hi
            obtain ⟨_, cs', h1, h2⟩ := hf i hi'
            have hpos : 0 < cs'.length := by rw [h1.len]; exact hs0
            have hcell := h2 0 hpos
            refine ⟨a.block, a.off, cs', ?_, trivial, World.block_lt_of_cell? w ⟨a.block, _, none⟩ hcell, by simpa using h1, h2⟩
            obtain ⟨c0, e0, _⟩ := hall 0 (by omega)
            obtain ⟨_, hl0, hc0⟩ := World.cells?_some e0
            rw [hs] at hl0 hc0
            have := hc0 0 hs0
            rw [List.getElem?_eq_getElem (by omega)] at this
            have hsp := World.cell?_spot this
            rw [Nat.zero_mul] at hsp
            simp only [Addr.add, if_true] at hsp
            obtain ⟨ab, ao, asp⟩ := a
            simp only at hsp; subst hsp; rfl
          · simp
            exact (hf i (by simpa using hi)).1
theorem opB_agg {D : Tab} (hD : TabOk P D) {n : Nat} {t : TypeId} {ty : Ty} (h : opB D n t ty = true) : (ty.isAgg = true ∧ ∃ fs, P.underlying t = some (.struct fs)) ∨
    (ty.isAgg = false ∧ ((∃ k, P.underlying t = some (.int k)) ∨ P.underlying t = some .bool ∨ P.underlying t = some .string ∨ ∃ e, P.underlying t = some (.slice e))) := by
  cases n with
  | zero => cases h
  | succ n =>
    unfold opB at h
    simp only [Bool.and_eq_true] at h
    obtain ⟨_, h⟩ := h
    cases ty with
    | int k => exact .inr ⟨rfl, .inl ⟨k, of_tkind hD (by simpa using h)⟩⟩
    | bool => exact .inr ⟨rfl, .inr (.inl (of_tbool hD h))⟩
    | str => exact .inr ⟨rfl, .inr (.inr (.inl (of_tstr hD h)))⟩
    | flt k => cases h
    | raw => cases h
    | arr m e => cases h
    | list e =>
      simp only at h
      cases he : telem D t with
      | none => rw [he] at h; cases h
      | some e' => exact .inr ⟨rfl, .inr (.inr (.inr ⟨e', of_telem hD he⟩))⟩
    | one a =>
      simp only at h
      split at h
      · rename_i hl; obtain ⟨fs, h1, _⟩ := of_tstruct hD hl; exact .inl ⟨rfl, fs, h1⟩
      · cases h
    | pair a b =>
      simp only at h
      split at h
      · rename_i hl; obtain ⟨fs, h1, _⟩ := of_tstruct hD hl; exact .inl ⟨rfl, fs, h1⟩
      · cases h
/-- the state ahead of a law: nothing is its own -/
def Cx.start (G : List (Nat × Value)) (w : World) : Cx := ⟨fun _ => none, [], fun _ => False, w, G⟩
theorem start_I {G : List (Nat × Value)} {w : World} (b : Nat) : (Cx.start G w).I b := ⟨fun h => h, fun t h => by obtain ⟨o, h1, _⟩ := h; simp [Cx.start] at h1⟩
theorem start_fz {G : List (Nat × Value)} {w : World} {t : Ty} {x : t.den} {cs : List Value} (h : FzC (fun _ => True) w t x cs) : FzC (Cx.start G w).I (Cx.start G w).w t x cs := h.mono fun b _ _ => ⟨start_I b, rfl⟩
theorem open_val {D : Tab} (hD : TabOk P D) {n : Nat} {t : TypeId} {ty : Ty} (hop : opB D n t ty = true) {r : Reach} {b0 : Nat} {v : Value} {d : DataW H} {ps : List MemPlace} (G : List (Nat × Value)) (hv : Value.okWide P w r b0 t v)
    (hd : DataW.Trod enc P w base spare held t v d ps) : ∃ y : ty.den, Rel (Cx.start G w) (.fz ty y) v ∧ ty.inB y := by
  obtain ⟨fuel, hf⟩ := hd
  obtain ⟨y, h1, h2⟩ := open_ty hD n t ty hop fuel _ _ hf
  refine ⟨y, ?_, h2⟩
  have hr := rel_fz_mk (start_fz (G := G) h1)
  have : valOf ty v.cells.toList = v := by
    unfold valOf
    rcases opB_agg hD hop with ⟨ha, fs, hs⟩ | ⟨ha, hs⟩
    · obtain ⟨cs, rfl, _⟩ := WideShapes.okWide_struct hs hv
      rw [if_pos ha]; simp [Value.cells]
    · rw [if_neg (by simp [ha])]
      rcases hs with ⟨k, hs⟩ | hs | hs | ⟨e, hs⟩
      · obtain ⟨m, rfl⟩ := WideShapes.okWide_int hs hv; rfl
      · obtain ⟨m, rfl⟩ := WideShapes.okWide_bool hs hv; rfl
      · obtain ⟨m, rfl⟩ := WideShapes.okWide_string hs hv; rfl
      · obtain ⟨a, len, cap, rfl⟩ := WideShapes.okWide_slice hs hv; rfl
  rw [← this]; exact hr
def tptrTo (D : Tab) (t : TypeId) : Option TypeId := match tlook D t with
  | some i => match i.d with
    | .ptr e => some e
    | _ => none
  | none => none
theorem of_tptrTo {D : Tab} (hD : TabOk P D) {t e : TypeId} (h : tptrTo D t = some e) : P.underlying t = some (.pointer e) := by
  unfold tptrTo at h
  cases hi : tlook D t with
  | none => rw [hi] at h; cases h
  | some x =>
    rw [hi] at h
    obtain ⟨i, d, _, h2, _, h4, _⟩ := tlook_info hD hi
    simp only at h
    cases hd : x.d <;> rw [hd] at h h4 <;> try (cases h; done)
    cases d <;> try (cases h4; done)
    cases h
    rw [h2, beq_eq h4]
theorem open_ptr {D : Tab} (hD : TabOk P D) {n : Nat} {t e : TypeId} {ty : Ty} (hp : tptrTo D t = some e) (hop : opB D n e ty = true) {r : Reach} {b0 : Nat} {v : Value} {d : DataW H} {ps : List MemPlace} (G : List (Nat × Value)) (hv : Value.okWide P w r b0 t v)
    (hd : DataW.Trod enc P w base spare held t v d ps) : v = .pointer none ∨ ∃ y : ty.den, Rel (Cx.start G w) (.fptr ty y) v ∧ ty.inB y := by
  obtain ⟨fuel, hf⟩ := hd
  have hu := of_tptrTo hD hp
  obtain ⟨a0, rfl⟩ := WideShapes.okWide_pointer hu hv
  rcases DataW.trod_pointer hu hf with ⟨h1, _⟩ | ⟨a, cs', y, m, _, h1, _, h2, h3⟩
  · simp [Value.cells] at h1; subst h1; exact .inl rfl
  · simp [Value.cells] at h1; subst h1
    obtain ⟨y', k1, k2⟩ := open_ty hD n e ty hop m _ _ h3
    obtain ⟨hs, hs0⟩ := opB_size hD hop
    obtain ⟨_, hl, hc⟩ := World.cells?_some h2
    rw [hs] at hl hc
    have h0 := hc 0 hs0
    rw [List.getElem?_eq_getElem (by omega)] at h0
    have hsp := World.cell?_spot h0
    simp only [Addr.add, if_true] at h0 hsp
    obtain ⟨ab, ao, asp⟩ := a
    simp only at hsp; subst hsp
    refine .inr ⟨y', ?_, k2⟩
    unfold Rel
    refine ⟨ab, ao, cs', rfl, start_I ab, World.block_lt_of_cell? w _ h0, start_fz k1, fun j hj => ?_⟩
    have := hc j (by omega)
    rw [List.getElem?_eq_getElem hj] at this
    unfold Addr.add at this
    by_cases hj0 : j = 0
    · subst hj0; rw [if_pos rfl] at this; exact this
    · rw [if_neg hj0] at this; exact this
end
/-- what a known variable must be ahead of a law -/
def Glo0 (w : World) (g : Nat) (v : Value) : Prop := w.cell? ⟨g, 0, none⟩ = some v ∧ ocell v = true ∧ ∀ T a, v = .iface T (.pointer (some a)) → ∃ cs et, w.heap[a.block]? = some (.cells cs et (0, 0))
/-- a contract, run ahead of which nothing is one's own -/
theorem acall_start {P : Program} {G : List (Nat × Value)} {f : FuncId} {args : List AV} {K : AV → List AO → Prop} {w : World} {vs : List Value} (hc : ACall P G f args [] K)
    (hg : ∀ g v, gk G g = some v → Glo0 w g v) (hv : RelL (Cx.start G w) args vs) :
    Calls P f vs.toArray w fun e w' => ∃ v c' r, e = .returned v ∧ c'.w = w' ∧ Below w.heap.size w w' ∧ Rel c' r v ∧ K r c'.A := by
  have H : HR (Cx.start G w) := ⟨fun t b h => by obtain ⟨o, h1, _⟩ := h; simp [Cx.start] at h1, fun t u b h => by obtain ⟨o, h1, _⟩ := h; simp [Cx.start] at h1,
    fun t o h => by simp [Cx.start] at h, fun b h => h.elim, fun g v h => ⟨start_I g, (hg g v h).1, (hg g v h).2.1, fun T a e => ⟨start_I _, (hg g v h).2.2 T a e⟩⟩⟩
  refine (hc.run (Cx.start G w) H rfl rfl vs hv).mono fun e w' ⟨v, c', r, h1, h2, h3, h4, h5, h6⟩ => ⟨v, c', r, h1, h2, ?_, h5, h6⟩
  subst h2
  have hb : ∀ k, k < w.heap.size → c'.w.heap[k]? = w.heap[k]? := fun k hk => (h3.le.I k (start_I k) hk).2
  refine ⟨h3.st.os, h3.st.tape, h3.st.output, ?_, hb⟩
  rcases Nat.lt_or_ge c'.w.heap.size w.heap.size with hlt | hge
  · have := hb c'.w.heap.size hlt
    rw [Array.getElem?_eq_none (Nat.le_refl _), Array.getElem?_eq_getElem hlt] at this
    cases this
  · exact hge
/-- .. of a law that answers true -/
theorem acall_true {P : Program} {G : List (Nat × Value)} {f : FuncId} {args : List AV} {w : World} {vs : List Value} (hc : ACall P G f args [] fun r _ => r = .fz .bool true)
    (hg : ∀ g v, gk G g = some v → Glo0 w g v) (hv : RelL (Cx.start G w) args vs) :
    Calls P f vs.toArray w fun e w' => e = .returned (.bool true) ∧ Below w.heap.size w w' :=
  (acall_start hc hg hv).mono fun e w' ⟨v, c', r, h1, _, h3, h4, h5⟩ => by
    subst h5
    rw [rel_bool] at h4
    subst h4
    exact ⟨h1, h3⟩
end Go.Ab
/-
  Contracts over fewer known variables serve where more are known.
-/
namespace Go.Ab
open Go
def Cx.withG (c : Cx) (G : List (Nat × Value)) : Cx := { c with G := G }
mutual
theorem rel_withG {c : Cx} {G : List (Nat × Value)} : ∀ (a : AV) (v : Value), Rel c a v → Rel (c.withG G) a v
  | .fz _ _, _, h => by unfold Rel at *; exact h
  | .fptr _ _, _, h => by unfold Rel at *; exact h
  | .ref _ _ _, _, h => by unfold Rel at *; exact h
  | .nilSl, _, h => by unfold Rel at *; exact h
  | .ptr _ _, _, h => by unfold Rel at *; exact h
  | .elt _ _ _, _, h => by unfold Rel at *; exact h
  | .glob _, _, h => by unfold Rel at *; exact h
  | .agg l, _, h => by unfold Rel at *; obtain ⟨vs, h1, h2⟩ := h; exact ⟨vs, h1, relL_withG l vs h2⟩
  | .tup l, _, h => by unfold Rel at *; obtain ⟨vs, h1, h2⟩ := h; exact ⟨vs, h1, relL_withG l vs h2⟩
  | .fn _ l, _, h => by unfold Rel at *; obtain ⟨vs, h1, h2⟩ := h; exact ⟨vs, h1, relL_withG l vs h2⟩
  | .ifc _ a, _, h => by unfold Rel at *; obtain ⟨u, h1, h2⟩ := h; exact ⟨u, h1, rel_withG a u h2⟩
  | .opt _ a, v, h => by unfold Rel at *; exact ⟨fun hg => rel_withG a v (h.1 hg), h.2⟩
  | .unk, _, _ => by unfold Rel; trivial
theorem relL_withG {c : Cx} {G : List (Nat × Value)} : ∀ (l : List AV) (vs : List Value), RelL c l vs → RelL (c.withG G) l vs
  | [], vs, h => by unfold RelL at *; exact h
  | a :: l, vs, h => by unfold RelL at *; obtain ⟨v, r, e, h1, h2⟩ := h; exact ⟨v, r, e, rel_withG a v h1, relL_withG l r h2⟩
end
theorem obj_withG {c : Cx} {G : List (Nat × Value)} {r : Option Nat} {o : AO} (h : ObjOk c r o) : ObjOk (c.withG G) r o := by
  cases o with
  | dead => trivial
  | row e xs => exact h
  | box vs => obtain ⟨b, cs, et, h1, h2, h3⟩ := h; exact ⟨b, cs, et, h1, h2, relL_withG vs cs h3⟩
theorem acall_more {P : Program} {G G' : List (Nat × Value)} {f : FuncId} {args : List AV} {A : List AO} {K : AV → List AO → Prop} (h : ACall P G f args A K) (hG : ∀ g v, gk G g = some v → gk G' g = some v) : ACall P G' f args A K := by
  refine ⟨h.body, fun c H hA hG' vs hv => ?_⟩
  have H0 : HR (c.withG G) := ⟨H.far, H.inj, fun t o ht => obj_withG (H.obj t o ht), H.old, fun g v hg => by obtain ⟨q1, q2, q3, q4⟩ := H.glo g v (by rw [hG']; exact hG g v hg); exact ⟨q1, q2, q3, q4⟩⟩
  refine (h.run (c.withG G) H0 hA rfl vs (relL_withG _ _ hv)).mono fun e w' ⟨v, c', r, h1, h2, h3, h4, h5, h6⟩ => ⟨v, c'.withG G', r, h1, h2, ⟨⟨h3.le.I, h3.le.tok, h3.le.len⟩, h3.X, hG'.symm, h3.far, h3.st⟩, ?_, rel_withG _ _ h5, h6⟩
  refine ⟨h4.far, h4.inj, fun t o ht => obj_withG (h4.obj t o ht), h4.old, fun g v hg => ?_⟩
  obtain ⟨p1, p2, p3, p4⟩ := H.glo g v (by rw [hG']; exact hg)
  have q0 : GloOk (c.withG G) g v := ⟨p1, p2, p3, p4⟩
  obtain ⟨q1, q2, q3, q4⟩ := q0.mono h3.le.I
  exact ⟨q1, q2, q3, q4⟩
end Go.Ab
/-
  Laid errors: what their variables hold.
-/
namespace Go.Ab
open Go Go.ChangeShapes
/-- an error with a text, al a row lays it -/
def errD {H : Type} (t : List UInt8) : DataW H := .iface "*errors.errorString" (.ptr (.agg [.lit (.string t)]))
theorem laid_errs {P : Program} {w : World} {T te ts : TypeId} {f : Field} (hrow : ∀ u, P.typeName? 3 u = some "*errors.errorString" → u = T)
    (hp : P.underlying T = some (.pointer te)) (he : P.underlying te = some (.struct #[f])) (hft : f.type = ts) (hfo : f.offset = 0) (hs : P.underlying ts = some .string) (hc : P.cellsOf te = 1) (hcs : P.cellsOf ts = 1) :
    ∀ (l : List (String × List UInt8)) (gs : List Nat) (ps : List MemPlace), DataW.LaidVars P w (l.map fun x => (x.1, errD x.2)) ps → ps.Nodup →
    (∀ b off, MemPlace.cell b off ∈ ps → (∃ c t, w.heap[b]? = some (.cells c t (0, 0))) ∧ ∀ u v, w.cell? ⟨b, off, none⟩ = some (.iface u v) → Value.okWide P w .any 0 u v) →
    (l.map fun x => P.globalNamed x.1) = gs.map some → (∀ g ∈ gs, ∃ ti ms, (P.globals[g]?).map (·.type) = some ti ∧ P.underlying ti = some (.interface ms)) →
    ∃ al : List Addr, al.length = gs.length ∧ al.Nodup ∧ (∀ (i : Nat) g a, gs[i]? = some g → al[i]? = some a → Glo0 w g (.iface T (.pointer (some a)))) ∧ ∀ a ∈ al, MemPlace.cell a.block a.off ∈ ps
  | [], [], _, _, _, _, _, _ => ⟨[], rfl, List.nodup_nil, fun i g a h => by simp at h, fun a h => by cases h⟩
  | [], _ :: _, _, _, _, _, h, _ => by simp at h
  | _ :: _, [], _, _, _, _, h, _ => by simp at h
  | x :: l, g :: gs, ps, h, hn, hall, hg, ht => by
    simp only [List.map_cons, List.cons.injEq] at hg
    obtain ⟨g', t', cs, fuel, p, q, h1, h2, h3, h4, h5, h6⟩ := h
    obtain rfl := Option.some.inj (hg.1.symm.trans h1)
    obtain ⟨ti, ms, k1, k2⟩ := ht g (List.mem_cons_self ..)
    obtain rfl := Option.some.inj (k1.symm.trans h2)
    subst h6
    obtain ⟨cl⟩ := cs
    have hok : ∀ u v, cl = [.iface u v] → Value.okWide P w .any 0 u v := fun u v e => by
      subst e
      exact (hall g 0 (by simp [MemPlace.row])).2 u v (by simpa using World.var?_cell h1 h3 0)
    obtain ⟨a, s, rfl, hca, _, _, rfl⟩ := errorString_of_trod k2 hrow hp he hft hfo hs hc hcs h4 hok
    have hmem : MemPlace.cell a.block a.off ∈ MemPlace.row a 1 := by simp [MemPlace.row]
    rw [List.append_assoc] at hn hall
    obtain ⟨al, j1, j2, j3, j4⟩ := laid_errs hrow hp he hft hfo hs hc hcs l gs q h5 ((hn.sublist (List.sublist_append_right _ _)).sublist (List.sublist_append_right _ _))
      (fun b off hb => hall b off (List.mem_append_right _ (List.mem_append_right _ hb))) hg.2 (fun g hg => ht g (List.mem_cons_of_mem _ hg))
    refine ⟨a :: al, by simp [j1], List.nodup_cons.2 ⟨fun hm => ?_, j2⟩, fun i g' a' h h' => ?_, fun a' h => ?_⟩
    · have := (List.nodup_append.1 (hn.sublist (List.sublist_append_right _ _))).2.2 _ hmem _ (j4 a hm)
      exact this rfl
    · cases i with
      | zero =>
        simp at h h'
        subst h; subst h'
        refine ⟨by simpa using World.var?_cell h1 h3 0, rfl, fun T' b e => ?_⟩
        cases e
        exact (hall a.block a.off (List.mem_append_right _ (List.mem_append_left _ hmem))).1
      | succ i => exact j3 i g' a' (by simpa using h) (by simpa using h')
    · rcases List.mem_cons.1 h with rfl | h
      · rw [List.append_assoc]; exact List.mem_append_right _ (List.mem_append_left _ hmem)
      · rw [List.append_assoc]; exact List.mem_append_right _ (List.mem_append_right _ (j4 a' h))
end Go.Ab
/-
  The table of the types of this program (printed by a program), and that it is true.
-/
namespace Go.Proofs.YtidhgdipnfhoeaaDoor
open Go Go.Ab
set_option maxRecDepth 100000
def tab : Tab := [
  (2, ⟨1, .int .i64, [.int .i64], true, 8⟩),
  (3, ⟨1, .int .i64, [.int .i64], true, 8⟩),
  (4, ⟨1, .bool, [.bool], true, 1⟩),
  (5, ⟨1, .int .u8, [.int .u8], true, 1⟩),
  (9, ⟨1, .str, [.str], true, 16⟩),
  (12, ⟨1, .int .u64, [.int .u64], true, 8⟩),
  (13, ⟨2, .struct [(0, 9), (1, 12)], [.str, .int .u64], true, 24⟩),
  (20, ⟨1, .ifc, [.nilI], false, 16⟩),
  (21, ⟨1, .int .i32, [.int .i32], true, 4⟩),
  (22, ⟨1, .ptr 28, [.nilP], true, 8⟩),
  (26, ⟨1, .slice 3, [.nilSl], true, 24⟩),
  (27, ⟨3, .struct [(0, 3), (1, 3), (2, 26)], [.int .i64, .int .i64, .nilSl], true, 40⟩),
  (28, ⟨3, .struct [(0, 3), (1, 3), (2, 26)], [.int .i64, .int .i64, .nilSl], true, 40⟩),
  (29, ⟨1, .ifc, [.nilI], false, 16⟩),
  (30, ⟨1, .ifc, [.nilI], false, 16⟩),
  (43, ⟨1, .slice 5, [.nilSl], true, 24⟩),
  (60, ⟨1, .int .u64, [.int .u64], true, 8⟩),
  (64, ⟨1, .slice 28, [.nilSl], true, 24⟩),
  (65, ⟨1, .ptr 69, [.nilP], true, 8⟩),
  (67, ⟨1, .ptr 65, [.nilP], true, 8⟩),
  (68, ⟨2, .struct [(0, 3), (1, 30)], [.int .i64, .nilI], true, 24⟩),
  (69, ⟨2, .struct [(0, 3), (1, 30)], [.int .i64, .nilI], true, 24⟩),
  (70, ⟨1, .slice 30, [.nilSl], true, 24⟩),
  (92, ⟨1, .ifc, [.nilI], false, 16⟩),
  (95, ⟨1, .ifc, [.nilI], false, 16⟩),
  (97, ⟨1, .ifc, [.nilI], false, 16⟩),
  (99, ⟨1, .ifc, [.nilI], false, 16⟩),
  (102, ⟨1, .ptr 126, [.nilP], true, 8⟩),
  (113, ⟨1, .int .u32, [.int .u32], true, 4⟩),
  (116, ⟨1, .ptr 5, [.nilP], true, 8⟩),
  (125, ⟨1, .struct [(0, 9)], [.str], true, 16⟩),
  (126, ⟨1, .struct [(0, 9)], [.str], true, 16⟩),
  (127, ⟨2, .struct [(0, 9), (1, 30)], [.str, .nilI], true, 32⟩),
  (129, ⟨2, .struct [(0, 9), (1, 70)], [.str, .nilSl], true, 40⟩),
  (133, ⟨1, .int .u16, [.int .u16], true, 2⟩),
  (141, ⟨1, .ptr 30, [.nilP], true, 8⟩)]
theorem tabOk : TabOk Tryd.prog tab := by unfold TabOk; kernel_rfl
theorem mixOk : Tryd.prog.follows .mixedOrders = true := by kernel_rfl
noncomputable def envAt (G : List (Nat × Value)) (N n0 : Nat) : Env := ⟨Tryd.prog, tab, G, N, n0, []⟩
theorem envOk (G : List (Nat × Value)) (N n0 : Nat) : EnvOk (envAt G N n0) := ⟨tabOk, mixOk⟩
noncomputable def envCut (G : List (Nat × Value)) (N n0 : Nat) (cuts : List Nat) : Env := ⟨Tryd.prog, tab, G, N, n0, cuts⟩
theorem envCutOk (G : List (Nat × Value)) (N n0 : Nat) (cuts : List Nat) : EnvOk (envCut G N n0 cuts) := ⟨tabOk, mixOk⟩
end Go.Proofs.YtidhgdipnfhoeaaDoor
/-
  Rasters: heights, sizes.
-/
namespace Go.Proofs.YtidhgdipnfhoeaaDoor
open Go Go.Ab
set_option maxRecDepth 100000
abbrev int : Ty := .int .i64
abbrev RasT : Ty := .pair int (.pair int (.list int))
def bigB (h : Int) : Bool := decide (1048576 < h) || decide (h < -1048576)
theorem bif_or (a b : Bool) : (bif a then true else b) = (a || b) := by cases a <;> rfl
theorem bif_and (a b : Bool) : (bif a then b else false) = (a && b) := by cases a <;> rfl
theorem great_any (G : List (Nat × Value)) (h : Int) (K : AV → List AO → Prop) (hK : K (.fz .bool (bigB h)) []) : ACall Tryd.prog G 31 [.fz int h] [] K := by
  refine acall_mk (E := envAt G 9 0) (envOk _ _ _) Tryd.func31 rfl rfl rfl rfl rfl ?_
  (repeat' (first | exact trivial | exact fun h => h | refine And.intro ?_ ?_ | (intro hb; first | (simp at hb; done) | (simp at hb) | skip) | omega | exact rfl | exact Nat.le_refl _ | (show _ + 1 ≤ 4294967296; omega) | (dsimp only; omega) | (show wantB _ _ = true; simp; done) | (show wantB _ _ = true; simp; omega) | (show (_ : Bool) = _; simp_all; done) | (exfalso; omega) | refine aRegion_auto (by decide +kernel) ?_ | fail))
  refine ⟨_, _, REnt.refl _ _ _, ?_⟩
  rw [bif_or]; exact hK
theorem big1_any (G : List (Nat × Value)) (h : Int) (K : AV → List AO → Prop) (hK : K (.fz .bool (bigB h)) []) : ACall Tryd.prog G 36 [.fz int h] [] K := by
  refine acall_mk (E := envAt G 9 0) (envOk _ _ _) Tryd.func36 rfl rfl rfl rfl rfl ?_
  (repeat' (first | exact trivial | exact fun h => h | refine And.intro ?_ ?_ | (intro hb; first | (simp at hb; done) | (simp at hb) | skip) | omega | exact rfl | exact Nat.le_refl _ | (show _ + 1 ≤ 4294967296; omega) | (dsimp only; omega) | (show wantB _ _ = true; simp; done) | (show wantB _ _ = true; simp; omega) | (show (_ : Bool) = _; simp_all; done) | (exfalso; omega) | refine aRegion_auto (by decide +kernel) ?_ | fail))
  refine ⟨_, _, REnt.refl _ _ _, ?_⟩
  rw [bif_or]; exact hK
def idxF (p : Int → Bool) (xs : List Int) : Int := match xs.findIdx? p with
  | some i => (i : Nat)
  | none => -1
theorem indexFunc_any (G : List (Nat × Value)) (xs : List Int) (g : FuncId) (p : Int → Bool) (hg : ∀ h K, K (.fz .bool (p h)) [] → ACall Tryd.prog G g [.fz int h] [] K) (hl : xs.length ≤ 1000000000000) (K : AV → List AO → Prop) (hK : K (.fz int (idxF p xs)) []) :
    ACall Tryd.prog G 46 [.fz (.list int) xs, .fn g []] [] K := by
  refine acall_mk (E := envAt G 19 0) (envOk _ _ _) Tryd.func46 rfl rfl rfl rfl rfl ?_
  (repeat' (first | exact trivial | exact fun h => h | refine And.intro ?_ ?_ | (intro hb; first | (simp at hb; done) | (simp at hb) | skip) | omega | exact rfl | exact Nat.le_refl _ | (show _ + 1 ≤ 4294967296; omega) | (dsimp only; omega) | (show wantB _ _ = true; simp; done) | (show wantB _ _ = true; simp; omega) | (show (_ : Bool) = _; simp_all; done) | (exfalso; omega) | refine aRegion_auto (by decide +kernel) ?_ | fail))
  refine ⟨Nat, fun k => ⟨[(0, .fz (.list int) xs), (1, .fn g []), (7, .fz int xs.length), (8, .fz int k)], []⟩, fun k => k ≤ xs.length ∧ ∀ j, j < k → p (xs.getD j 0) = false, fun k => xs.length - k, 0, ⟨Nat.zero_le _, fun j h => absurd h (Nat.not_lt_zero _)⟩, Ent.sub rfl ⟨rfl, rfl, rfl, rfl⟩, ?_⟩
  intro k ⟨hk, hp⟩
  (repeat' (first | exact trivial | exact fun h => h | refine And.intro ?_ ?_ | (intro hb; first | (simp at hb; done) | (simp at hb) | skip) | omega | exact rfl | exact Nat.le_refl _ | (show _ + 1 ≤ 4294967296; omega) | (dsimp only; omega) | (show wantB _ _ = true; simp; done) | (show wantB _ _ = true; simp; omega) | (show (_ : Bool) = _; simp_all; done) | (exfalso; omega) | refine aRegion_auto (by decide +kernel) ?_ | fail))
  · refine acall_frame0 rfl (hg _ _ ?_)
    (repeat' (first | exact trivial | exact fun h => h | refine And.intro ?_ ?_ | (intro hb; first | (simp at hb; done) | (simp at hb) | skip) | omega | exact rfl | exact Nat.le_refl _ | (show _ + 1 ≤ 4294967296; omega) | (dsimp only; omega) | (show wantB _ _ = true; simp; done) | (show wantB _ _ = true; simp; omega) | (show (_ : Bool) = _; simp_all; done) | (exfalso; omega) | refine aRegion_auto (by decide +kernel) ?_ | fail))
    · refine ⟨_, _, REnt.refl _ _ _, ?_⟩
      have : idxF p xs = k := by
        unfold idxF
        have : xs.findIdx? p = some k := by
          rw [List.findIdx?_eq_some_iff_getElem]
          refine ⟨by assumption, ?_, fun j hj => ?_⟩
          · simpa [List.getD, show k < xs.length by assumption] using hb
          · have := hp j hj
            have hlt : j < xs.length := by omega
            simpa [List.getD, hlt] using this
        rw [this]
      rw [this] at hK; exact hK
    · refine ⟨k + 1, ⟨by omega, fun j hj => ?_⟩, by show _ - _ < _ - _; omega, Ent.sub rfl ⟨rfl, rfl, rfl, rfl⟩⟩
      by_cases h : j = k
      · subst h; exact hb
      · exact hp j (by omega)
  · refine ⟨_, _, REnt.refl _ _ _, ?_⟩
    have : idxF p xs = -1 := by
      unfold idxF
      have : xs.findIdx? p = none := by
        rw [List.findIdx?_eq_none_iff]
        intro x hx
        obtain ⟨j, hj, rfl⟩ := List.getElem_of_mem hx
        have := hp j (by omega)
        simpa [List.getD, hj] using this
      rw [this]
    rw [this] at hK; exact hK
theorem containsFunc_any (G : List (Nat × Value)) (xs : List Int) (g : FuncId) (p : Int → Bool) (hg : ∀ h K, K (.fz .bool (p h)) [] → ACall Tryd.prog G g [.fz int h] [] K) (hl : xs.length ≤ 1000000000000) (K : AV → List AO → Prop) (hK : K (.fz .bool (xs.any p)) []) :
    ACall Tryd.prog G 35 [.fz (.list int) xs, .fn g []] [] K := by
  refine acall_mk (E := envAt G 9 0) (envOk _ _ _) Tryd.func35 rfl rfl rfl rfl rfl ?_
  (repeat' (first | exact trivial | exact fun h => h | refine And.intro ?_ ?_ | (intro hb; first | (simp at hb; done) | (simp at hb) | skip) | omega | exact rfl | exact Nat.le_refl _ | (show _ + 1 ≤ 4294967296; omega) | (dsimp only; omega) | (show wantB _ _ = true; simp; done) | (show wantB _ _ = true; simp; omega) | (show (_ : Bool) = _; simp_all; done) | (exfalso; omega) | refine aRegion_auto (by decide +kernel) ?_ | fail))
  refine acall_frame0 rfl (indexFunc_any G xs g p hg hl _ ?_)
  (repeat' (first | exact trivial | exact fun h => h | refine And.intro ?_ ?_ | (intro hb; first | (simp at hb; done) | (simp at hb) | skip) | omega | exact rfl | exact Nat.le_refl _ | (show _ + 1 ≤ 4294967296; omega) | (dsimp only; omega) | (show wantB _ _ = true; simp; done) | (show wantB _ _ = true; simp; omega) | (show (_ : Bool) = _; simp_all; done) | (exfalso; omega) | refine aRegion_auto (by decide +kernel) ?_ | fail))
  refine ⟨_, _, REnt.refl _ _ _, ?_⟩
  have : decide ((0 : Int) ≤ idxF p xs) = xs.any p := by
    unfold idxF
    cases h : xs.findIdx? p with
    | none =>
      rw [List.findIdx?_eq_none_iff] at h
      simp; intro x hx; simpa using h x hx
    | some i =>
      obtain ⟨h1, h2, _⟩ := List.findIdx?_eq_some_iff_getElem.1 h
      simp; exact ⟨_, List.getElem_mem h1, h2⟩
  rw [this]; exact hK
end Go.Proofs.YtidhgdipnfhoeaaDoor
/-
  Rasters: are they right?
-/
namespace Go.Proofs.YtidhgdipnfhoeaaDoor
open Go Go.Ab
set_option maxRecDepth 100000
/-- where the errors lie -/
structure Errs where
  text : Addr
  bound : Addr
  shape : Addr
  range : Addr
  name : Addr
  none : Addr
  order : Addr
  file : Addr
abbrev errV (a : Addr) : Value := .iface 102 (.pointer (some a))
abbrev GE (E : Errs) : List (Nat × Value) := [(0, errV E.shape), (1, errV E.range), (2, errV E.bound)]
/-! ### is a raster right? -/
abbrev Ras := Int × Int × List Int
/-- 0, or the number of an error -/
def rerr (a : Ras) : Nat := if 128 < a.1 ∨ 128 < a.2.1 then 2 else if a.1 < 1 ∨ a.2.1 < 1 ∨ (a.2.2.length : Int) ≠ a.1 * a.2.1 then 3 else if a.2.2.any bigB then 4 else 0
theorem mul_bd {a b A B : Int} (h1 : 0 ≤ a) (h2 : a ≤ A) (h3 : 0 ≤ b) (h4 : b ≤ B) : 0 ≤ a * b ∧ a * b ≤ A * B :=
  ⟨Int.mul_nonneg h1 h3, Int.mul_le_mul h2 h4 h3 (Int.le_trans h1 h2)⟩
theorem valid_any (E : Errs) (a : Ras) (hl : a.2.2.length ≤ 1000000000000) (K : AV → List AO → Prop)
    (h0 : rerr a = 0 → K (.fz .raw .nilIface) []) (h2 : rerr a = 2 → K (.fz .raw (errV E.bound)) []) (h3 : rerr a = 3 → K (.fz .raw (errV E.shape)) []) (h4 : rerr a = 4 → K (.fz .raw (errV E.range)) []) : ACall Tryd.prog (GE E) 17 [.fz RasT a] [] K := by
  refine acall_mk (E := envAt (GE E) 36 0) (envOk _ _ _) Tryd.func17 rfl rfl rfl rfl rfl ?_
  (repeat' (first | exact trivial | exact fun h => h | refine And.intro ?_ ?_ | (intro hb; first | (simp at hb; done) | (simp at hb) | skip) | omega | exact rfl | exact Nat.le_refl _ | (show _ + 1 ≤ 4294967296; omega) | (dsimp only; omega) | (show wantB _ _ = true; simp; done) | (show wantB _ _ = true; simp; omega) | (show (_ : Bool) = _; simp_all; done) | (exfalso; omega) | refine aRegion_auto (by decide +kernel) ?_ | fail))
  · refine ⟨_, _, REnt.drop ⟨rfl, rfl⟩, ?_⟩
    exact h2 (by unfold rerr; rw [if_pos hb])
  · have := mul_bd (a := a.1) (b := a.2.1) (A := 128) (B := 128) (by omega) (by omega) (by omega) (by omega); omega
  · have := mul_bd (a := a.1) (b := a.2.1) (A := 128) (B := 128) (by omega) (by omega) (by omega) (by omega); omega
  · refine ⟨_, _, REnt.drop ⟨rfl, rfl⟩, ?_⟩
    exact h3 (by unfold rerr; rw [if_neg (by omega), if_pos (by omega)])
  · refine acall_frame0 rfl (containsFunc_any (GE E) a.2.2 _ bigB (big1_any (GE E)) hl _ ?_)
    (repeat' (first | exact trivial | exact fun h => h | refine And.intro ?_ ?_ | (intro hb; first | (simp at hb; done) | (simp at hb) | skip) | omega | exact rfl | exact Nat.le_refl _ | (show _ + 1 ≤ 4294967296; omega) | (dsimp only; omega) | (show wantB _ _ = true; simp; done) | (show wantB _ _ = true; simp; omega) | (show (_ : Bool) = _; simp_all; done) | (exfalso; omega) | refine aRegion_auto (by decide +kernel) ?_ | fail))
    · refine ⟨_, _, REnt.drop ⟨rfl, rfl⟩, ?_⟩
      exact h4 (by unfold rerr; rw [if_neg (by omega), if_neg (by omega), if_pos (by simpa using hb)])
    · refine ⟨_, _, REnt.drop ⟨rfl, rfl⟩, ?_⟩
      exact h0 (by unfold rerr; rw [if_neg (by omega), if_neg (by omega), if_neg (by simpa using hb)])
end Go.Proofs.YtidhgdipnfhoeaaDoor
/-
  The document's answer for a raster; most, least, sums.
-/
namespace Go.Proofs.YtidhgdipnfhoeaaDoor
open Go Go.Ab
set_option maxRecDepth 100000
theorem rerr_in (a : Ras) : rerr a ≤ 4 := by unfold rerr; split; omega; split; omega; split <;> omega
theorem take_any (p : Int → Bool) (l : List Int) (k : Nat) (hk : k < l.length) : (l.take (k + 1)).any p = ((l.take k).any p || p (l.getD k 0)) := by
  rw [List.take_succ_eq_append_getElem hk, List.any_append]; simp [List.getD, hk]
theorem any_in (p : Int → Bool) (l : List Int) (k : Nat) (hk : k < l.length) (h : p (l.getD k 0) = true) : l.any p = true := by
  rw [List.any_eq_true]; exact ⟨l[k], List.getElem_mem hk, by simpa [List.getD, hk] using h⟩
theorem rasterError_any (G : List (Nat × Value)) (a : Ras) (hl : a.2.2.length ≤ 1000000000000) (K : AV → List AO → Prop) (hK : K (.fz int (rerr a)) []) :
    ACall Tryd.prog G 10 [.fptr RasT a] [] K := by
  refine acall_mk (E := envAt G 64 0) (envOk _ _ _) Tryd.func10 rfl rfl rfl rfl rfl ?_
  (repeat' (first | exact trivial | exact fun h => h | refine And.intro ?_ ?_ | (intro hb; first | (simp at hb; done) | (simp at hb) | skip) | omega | exact rfl | exact Nat.le_refl _ | (show _ + 1 ≤ 4294967296; omega) | (dsimp only; omega) | (show wantB _ _ = true; simp; done) | (show wantB _ _ = true; simp; omega) | (show (_ : Bool) = _; simp_all; done) | (exfalso; omega) | refine aRegion_auto (by decide +kernel) ?_ | fail))
  · refine ⟨_, _, REnt.drop ⟨rfl, rfl⟩, ?_⟩
    have : rerr a = 2 := by unfold rerr; rw [if_pos hb]
    rw [this] at hK; exact hK
  · have := mul_bd (a := a.1) (b := a.2.1) (A := 128) (B := 128) (by omega) (by omega) (by omega) (by omega); omega
  · have := mul_bd (a := a.1) (b := a.2.1) (A := 128) (B := 128) (by omega) (by omega) (by omega) (by omega); omega
  · refine ⟨_, _, REnt.drop ⟨rfl, rfl⟩, ?_⟩
    have : rerr a = 3 := by unfold rerr; rw [if_neg (by omega), if_pos (by omega)]
    rw [this] at hK; exact hK
  refine ⟨Nat, fun k => ⟨[(0, .fptr RasT a), (3, .fz int k)], []⟩, fun k => k ≤ a.2.2.length ∧ (a.2.2.take k).any bigB = false, fun k => a.2.2.length - k, 0, ⟨Nat.zero_le _, rfl⟩, Ent.sub rfl ⟨rfl, rfl⟩, ?_⟩
  intro k ⟨hk, hp⟩
  (repeat' (first | exact trivial | exact fun h => h | refine And.intro ?_ ?_ | (intro hb; first | (simp at hb; done) | (simp at hb) | skip) | omega | exact rfl | exact Nat.le_refl _ | (show _ + 1 ≤ 4294967296; omega) | (dsimp only; omega) | (show wantB _ _ = true; simp; done) | (show wantB _ _ = true; simp; omega) | (show (_ : Bool) = _; simp_all; done) | (exfalso; omega) | refine aRegion_auto (by decide +kernel) ?_ | fail))
  · refine acall_frame0 rfl (great_any G _ _ ?_)
    (repeat' (first | exact trivial | exact fun h => h | refine And.intro ?_ ?_ | (intro hb; first | (simp at hb; done) | (simp at hb) | skip) | omega | exact rfl | exact Nat.le_refl _ | (show _ + 1 ≤ 4294967296; omega) | (dsimp only; omega) | (show wantB _ _ = true; simp; done) | (show wantB _ _ = true; simp; omega) | (show (_ : Bool) = _; simp_all; done) | (exfalso; omega) | refine aRegion_auto (by decide +kernel) ?_ | fail))
    · refine ⟨_, _, REnt.drop ⟨rfl, rfl⟩, ?_⟩
      have : rerr a = 4 := by unfold rerr; rw [if_neg (by omega), if_neg (by omega), if_pos (any_in bigB _ k (by omega) hb)]
      rw [this] at hK; exact hK
    · refine ⟨k + 1, ⟨by omega, ?_⟩, by show _ - _ < _ - _; omega, Ent.sub rfl ⟨rfl, rfl⟩⟩
      have hb : bigB (a.2.2.getD k 0) = false := hb
      rw [take_any _ _ _ (by omega), hp, hb]; rfl
  · refine ⟨_, _, REnt.drop ⟨rfl, rfl⟩, ?_⟩
    have : rerr a = 0 := by
      have hk : k = a.2.2.length := by omega
      subst hk
      rw [List.take_length] at hp
      unfold rerr; rw [if_neg (by omega), if_neg (by omega), if_neg (by simp [hp])]
    rw [this] at hK; exact hK
def maxL : List Int → Int
  | [] => 0
  | x :: l => l.foldl max x
def minL : List Int → Int
  | [] => 0
  | x :: l => l.foldl min x
theorem foldl_take (f : Int → Int → Int) (l : List Int) (k : Nat) (hk : k < l.length) (x : Int) : (l.take (k + 1)).foldl f x = f ((l.take k).foldl f x) (l.getD k 0) := by
  rw [List.take_succ_eq_append_getElem hk, List.foldl_append]; simp [List.getD, hk]
theorem max_any (G : List (Nat × Value)) (xs : List Int) (hn : xs ≠ []) (hl : xs.length ≤ 1000000000000) (K : AV → List AO → Prop) (hK : K (.fz int (maxL xs)) []) :
    ACall Tryd.prog G 41 [.fz (.list int) xs] [] K := by
  refine acall_mk (E := envAt G 25 0) (envOk _ _ _) Tryd.func41 rfl rfl rfl rfl rfl ?_
  obtain ⟨x, l, rfl⟩ := List.exists_cons_of_ne_nil hn
  have h0 : (x :: l).length = l.length + 1 := rfl
  (repeat' (first | exact trivial | exact fun h => h | refine And.intro ?_ ?_ | (intro hb; first | (simp at hb; done) | (simp at hb) | skip) | omega | exact rfl | exact Nat.le_refl _ | (show _ + 1 ≤ 4294967296; omega) | (dsimp only; omega) | (show wantB _ _ = true; simp; done) | (show wantB _ _ = true; simp; omega) | (show (_ : Bool) = _; simp_all; done) | (exfalso; omega) | refine aRegion_auto (by decide +kernel) ?_ | fail))
  refine ⟨Nat, fun k => ⟨[(0, .fz (.list int) (x :: l)), (4, .fz int ((k : Int) + 1)), (3, .fz int ((l.take k).foldl max x))], []⟩, fun k => k ≤ l.length, fun k => l.length - k, 0, Nat.zero_le _, Ent.sub rfl ⟨rfl, rfl, rfl⟩, ?_⟩
  intro k hk
  (repeat' (first | exact trivial | exact fun h => h | refine And.intro ?_ ?_ | (intro hb; first | (simp at hb; done) | (simp at hb) | skip) | omega | exact rfl | exact Nat.le_refl _ | (show _ + 1 ≤ 4294967296; omega) | (dsimp only; omega) | (show wantB _ _ = true; simp; done) | (show wantB _ _ = true; simp; omega) | (show (_ : Bool) = _; simp_all; done) | (exfalso; omega) | refine aRegion_auto (by decide +kernel) ?_ | fail))
  · refine ⟨k + 1, by omega, by show _ - _ < _ - _; omega, Ent.sub rfl ⟨rfl, rfl, ?_⟩⟩
    rw [foldl_take _ _ _ (by omega)]; rfl
  · refine ⟨_, _, REnt.drop ⟨rfl, rfl⟩, ?_⟩
    have hk : k = l.length := by omega
    subst hk
    rw [List.take_length]; exact hK
theorem min_any (G : List (Nat × Value)) (xs : List Int) (hn : xs ≠ []) (hl : xs.length ≤ 1000000000000) (K : AV → List AO → Prop) (hK : K (.fz int (minL xs)) []) :
    ACall Tryd.prog G 42 [.fz (.list int) xs] [] K := by
  refine acall_mk (E := envAt G 25 0) (envOk _ _ _) Tryd.func42 rfl rfl rfl rfl rfl ?_
  obtain ⟨x, l, rfl⟩ := List.exists_cons_of_ne_nil hn
  have h0 : (x :: l).length = l.length + 1 := rfl
  (repeat' (first | exact trivial | exact fun h => h | refine And.intro ?_ ?_ | (intro hb; first | (simp at hb; done) | (simp at hb) | skip) | omega | exact rfl | exact Nat.le_refl _ | (show _ + 1 ≤ 4294967296; omega) | (dsimp only; omega) | (show wantB _ _ = true; simp; done) | (show wantB _ _ = true; simp; omega) | (show (_ : Bool) = _; simp_all; done) | (exfalso; omega) | refine aRegion_auto (by decide +kernel) ?_ | fail))
  refine ⟨Nat, fun k => ⟨[(0, .fz (.list int) (x :: l)), (4, .fz int ((k : Int) + 1)), (3, .fz int ((l.take k).foldl min x))], []⟩, fun k => k ≤ l.length, fun k => l.length - k, 0, Nat.zero_le _, Ent.sub rfl ⟨rfl, rfl, rfl⟩, ?_⟩
  intro k hk
  (repeat' (first | exact trivial | exact fun h => h | refine And.intro ?_ ?_ | (intro hb; first | (simp at hb; done) | (simp at hb) | skip) | omega | exact rfl | exact Nat.le_refl _ | (show _ + 1 ≤ 4294967296; omega) | (dsimp only; omega) | (show wantB _ _ = true; simp; done) | (show wantB _ _ = true; simp; omega) | (show (_ : Bool) = _; simp_all; done) | (exfalso; omega) | refine aRegion_auto (by decide +kernel) ?_ | fail))
  · refine ⟨k + 1, by omega, by show _ - _ < _ - _; omega, Ent.sub rfl ⟨rfl, rfl, ?_⟩⟩
    rw [foldl_take _ _ _ (by omega)]; rfl
  · refine ⟨_, _, REnt.drop ⟨rfl, rfl⟩, ?_⟩
    have hk : k = l.length := by omega
    subst hk
    rw [List.take_length]; exact hK
end Go.Proofs.YtidhgdipnfhoeaaDoor
/-
  Around each cell: the walk.
-/
namespace Go.Proofs.YtidhgdipnfhoeaaDoor
open Go Go.Ab
set_option maxRecDepth 100000
def errA (E : Errs) : Nat → Addr
  | 1 => E.text
  | 2 => E.bound
  | 3 => E.shape
  | 4 => E.range
  | _ => E.none
theorem valid_err (E : Errs) (a : Ras) (hl : a.2.2.length ≤ 1000000000000) (K : AV → List AO → Prop)
    (h0 : rerr a = 0 → K (.fz .raw .nilIface) []) (he : ∀ e, rerr a = e → 0 < e → K (.fz .raw (errV (errA E e))) []) : ACall Tryd.prog (GE E) 17 [.fz RasT a] [] K :=
  valid_any E a hl K h0 (fun h => he 2 h (by decide)) (fun h => he 3 h (by decide)) (fun h => he 4 h (by decide))
def aerr (a : Ras) (reach : Int) : Nat := if 0 < rerr a then rerr a else if reach < 0 ∨ 128 < reach then 3 else 0
def seg (a : Ras) (reach : Int) (c : Nat) (y : Int) : List Int := (a.2.2.drop (y * a.1 + max 0 (c - reach)).toNat).take ((y * a.1 + min (a.1 - 1) (c + reach) + 1).toNat - (y * a.1 + max 0 (c - reach)).toNat)
def segs (a : Ras) (reach : Int) (c : Nat) (lo : Int) : Nat → List Int
  | 0 => []
  | k + 1 => segs a reach c lo k ++ seg a reach c (lo + k)
/-- the cells around one -/
def winW (a : Ras) (reach : Int) (r c : Nat) : List Int := segs a reach c (max 0 (r - reach)) (min (a.2.1 - 1) (r + reach) + 1 - max 0 (r - reach)).toNat
def rowW (F : List Int → Int) (a : Ras) (reach : Int) (r : Nat) : Nat → List Int
  | 0 => []
  | c + 1 => rowW F a reach r c ++ [F (winW a reach r c)]
def allW (F : List Int → Int) (a : Ras) (reach : Int) : Nat → List Int
  | 0 => []
  | r + 1 => allW F a reach r ++ rowW F a reach r a.1.toNat
theorem row_bd {y H W : Int} (h1 : 0 ≤ y) (h2 : y + 1 ≤ H) (hW : 0 ≤ W) : 0 ≤ y * W ∧ y * W + W ≤ W * H := by
  have h3 := Int.mul_nonneg h1 hW
  have h4 : (y + 1) * W ≤ H * W := Int.mul_le_mul_of_nonneg_right h2 hW
  rw [Int.add_mul, Int.one_mul, Int.mul_comm H W] at h4
  exact ⟨h3, h4⟩
theorem seg_len {a : Ras} (h : a.1 ≤ 128) (reach : Int) (c : Nat) (y : Int) : (seg a reach c y).length ≤ 128 := by
  unfold seg; rw [List.length_take]; omega
theorem segs_len {a : Ras} (h : a.1 ≤ 128) (reach : Int) (c : Nat) (lo : Int) : ∀ k, (segs a reach c lo k).length ≤ k * 128
  | 0 => Nat.le_refl _
  | k + 1 => by
    have h1 := segs_len h reach c lo k
    have h2 := seg_len h reach c (lo + k)
    unfold segs; rw [List.length_append]; omega
theorem seg_mem {a : Ras} {reach : Int} {c : Nat} {y x : Int} (h : x ∈ seg a reach c y) : x ∈ a.2.2 := List.mem_of_mem_drop (List.mem_of_mem_take h)
theorem segs_mem {a : Ras} {reach : Int} {c : Nat} {lo x : Int} : ∀ {k}, x ∈ segs a reach c lo k → x ∈ a.2.2
  | 0, h => by cases h
  | k + 1, h => by
    unfold segs at h
    rcases List.mem_append.1 h with h | h
    · exact segs_mem h
    · exact seg_mem h
theorem win_ne {a : Ras} {reach : Int} {r c : Nat} (h0 : 0 ≤ reach) (hr : (r : Int) < a.2.1) (hc : (c : Int) < a.1) (hl : (a.2.2.length : Int) = a.1 * a.2.1) : winW a reach r c ≠ [] := by
  unfold winW
  obtain ⟨k, hk⟩ : ∃ k : Nat, (min (a.2.1 - 1) (r + reach) + 1 - max 0 (r - reach)).toNat = k + 1 := ⟨(min (a.2.1 - 1) (r + reach) + 1 - max 0 (r - reach)).toNat - 1, by omega⟩
  rw [hk]
  unfold segs
  have := row_bd (y := max 0 (r - reach) + k) (H := a.2.1) (W := a.1) (by omega) (by omega) (by omega)
  have h1 : 0 < (seg a reach c (max 0 (r - reach) + k)).length := by unfold seg; rw [List.length_take, List.length_drop]; omega
  intro he
  rw [List.append_eq_nil_iff] at he
  rw [he.2] at h1; simp at h1
theorem rerr_ok {a : Ras} (hv : rerr a = 0) : (1 ≤ a.1 ∧ 1 ≤ a.2.1 ∧ a.1 ≤ 128 ∧ a.2.1 ≤ 128 ∧ (a.2.2.length : Int) = a.1 * a.2.1) ∧ ∀ x ∈ a.2.2, bigB x = false := by
  unfold rerr at hv
  split at hv; omega
  split at hv; omega
  split at hv; omega
  rename_i h1 h2 h3
  refine ⟨by omega, fun x hx => ?_⟩
  simp only [List.any_eq_true, not_exists, not_and, Bool.not_eq_true] at h3
  exact h3 x hx
theorem rowW_len (F : List Int → Int) (a : Ras) (reach : Int) (r : Nat) : ∀ c, (rowW F a reach r c).length = c
  | 0 => rfl
  | c + 1 => by unfold rowW; rw [List.length_append, rowW_len F a reach r c]; rfl
theorem allW_len (F : List Int → Int) (a : Ras) (reach : Int) : ∀ r, (allW F a reach r).length = r * a.1.toNat
  | 0 => by simp [allW]
  | r + 1 => by unfold allW; rw [List.length_append, allW_len F a reach r, rowW_len, Nat.succ_mul]
theorem around_any (E : Errs) (a : Ras) (reach : Int) (g : FuncId) (F : List Int → Int)
    (hg : ∀ xs K, xs ≠ [] → xs.length ≤ 16384 → (∀ x ∈ xs, bigB x = false) → K (.fz int (F xs)) [] → ACall Tryd.prog (GE E) g [.fz (.list int) xs] [] K)
    (hl : a.2.2.length ≤ 1000000000000) (hr : I64 reach) (K : AV → List AO → Prop)
    (h0 : rerr a = 0 → 0 ≤ reach → reach ≤ 128 → K (.tup [.fz RasT (a.1, a.2.1, allW F a reach a.2.1.toNat), .fz .raw .nilIface]) [])
    (he : ∀ e, aerr a reach = e → 0 < e → K (.tup [.fz RasT (0, 0, []), .fz .raw (errV (errA E e))]) []) :
    ACall Tryd.prog (GE E) 40 [.fz RasT a, .fz int reach, .fn g []] [] K := by
  refine acall_mk (E := envAt (GE E) 96 0) (envOk _ _ _) Tryd.func40 rfl rfl rfl rfl rfl ?_
  (repeat' (first | exact trivial | exact fun h => h | refine And.intro ?_ ?_ | (intro hb; first | (simp at hb; done) | (simp at hb) | skip) | omega | exact rfl | exact Nat.le_refl _ | (show _ + 1 ≤ 4294967296; omega) | (dsimp only; omega) | (show wantB _ _ = true; simp; done) | (show wantB _ _ = true; simp; omega) | (show (_ : Bool) = _; simp_all; done) | (exfalso; omega) | refine aRegion_auto (by decide +kernel) ?_ | fail))
  refine acall_conv [.dat RasT] _ _ _ rfl trivial (acall_frame0 rfl (valid_err E a hl _ (fun hv => ?_) (fun e hv he0 => ?_)))
  · (repeat' (first | exact trivial | exact fun h => h | refine And.intro ?_ ?_ | (intro hb; first | (simp at hb; done) | (simp at hb) | skip) | omega | exact rfl | exact Nat.le_refl _ | (show _ + 1 ≤ 4294967296; omega) | (dsimp only; omega) | (show wantB _ _ = true; simp; done) | (show wantB _ _ = true; simp; omega) | (show (_ : Bool) = _; simp_all; done) | (exfalso; omega) | refine aRegion_auto (by decide +kernel) ?_ | fail))
    · rename_i hb
      (apply exEff; focus (repeat' (first | exact ⟨rfl, rfl⟩ | exact trivial | refine And.intro ?_ ?_ | omega | exact Nat.le_refl _ | (show _ + 1 ≤ 4294967296; omega))))
      (repeat' (first | exact trivial | exact fun h => h | refine And.intro ?_ ?_ | (intro hb; first | (simp at hb; done) | (simp at hb) | skip) | omega | exact rfl | exact Nat.le_refl _ | (show _ + 1 ≤ 4294967296; omega) | (dsimp only; omega) | (show wantB _ _ = true; simp; done) | (show wantB _ _ = true; simp; omega) | (show (_ : Bool) = _; simp_all; done) | (exfalso; omega) | refine aRegion_auto (by decide +kernel) ?_ | fail))
      refine ⟨_, _, (REnt.conv [.dat RasT, .keep] _ rfl trivial).trans (REnt.drop ⟨rfl, rfl⟩), ?_⟩
      exact he 3 (by unfold aerr; rw [if_neg (by omega), if_pos hb]) (by decide)
    rename_i hb
    obtain ⟨hW, hbig⟩ := rerr_ok hv
    obtain ⟨hW1, hH1, hW2, hH2, hlen⟩ := hW
    refine ⟨Nat, fun r => ⟨[(1, .fz int reach), (2, .fn g []), (3, .ptr 0 0), (6, .ptr 1 0), (7, .fz .raw .nilIface), (9, .ptr 2 0), (34, .fz int a.2.1), (35, .fz int r)], [.box [.fz int a.1, .fz int a.2.1, .fz (.list int) a.2.2], .box [.fz int 0, .fz int 0, .nilSl], .box [.fz int a.1, .fz int a.2.1, .ref 3 0 (allW F a reach r).length], .row int (allW F a reach r)]⟩, fun r => r ≤ a.2.1, fun r => a.2.1.toNat - r, 0, by show ((0 : Nat) : Int) ≤ _; omega, (Ent.nilBox 2 2 int rfl rfl).trans (Ent.sub rfl ⟨rfl, rfl, rfl, rfl, rfl, rfl, rfl, rfl⟩), ?_⟩
    intro r hr2
    (repeat' (first | exact trivial | exact fun h => h | refine And.intro ?_ ?_ | (intro hb; first | (simp at hb; done) | (simp at hb) | skip) | omega | exact rfl | exact Nat.le_refl _ | (show _ + 1 ≤ 4294967296; omega) | (dsimp only; omega) | (show wantB _ _ = true; simp; done) | (show wantB _ _ = true; simp; omega) | (show (_ : Bool) = _; simp_all; done) | (exfalso; omega) | refine aRegion_auto (by decide +kernel) ?_ | fail))
    · refine ⟨Nat, fun c => ⟨[(1, .fz int reach), (2, .fn g []), (3, .ptr 0 0), (6, .ptr 1 0), (7, .fz .raw .nilIface), (9, .ptr 2 0), (34, .fz int a.2.1), (35, .fz int r), (10, .fz int r), (39, .fz int a.1), (40, .fz int c)], [.box [.fz int a.1, .fz int a.2.1, .fz (.list int) a.2.2], .box [.fz int 0, .fz int 0, .nilSl], .box [.fz int a.1, .fz int a.2.1, .ref 3 0 (allW F a reach r ++ rowW F a reach r c).length], .row int (allW F a reach r ++ rowW F a reach r c)]⟩, fun c => c ≤ a.1, fun c => a.1.toNat - c, 0, by show ((0 : Nat) : Int) ≤ _; omega, Ent.sub (by simp [rowW]) ⟨rfl, rfl, rfl, rfl, rfl, rfl, rfl, rfl, rfl, rfl, rfl⟩, ?_⟩
      intro c hc2
      (repeat' (first | exact trivial | exact fun h => h | refine And.intro ?_ ?_ | (intro hb; first | (simp at hb; done) | (simp at hb) | skip) | omega | exact rfl | exact Nat.le_refl _ | (show _ + 1 ≤ 4294967296; omega) | (dsimp only; omega) | (show wantB _ _ = true; simp; done) | (show wantB _ _ = true; simp; omega) | (show (_ : Bool) = _; simp_all; done) | (exfalso; omega) | refine aRegion_auto (by decide +kernel) ?_ | fail))
      · refine ⟨Nat, fun k => ⟨[(1, .fz int reach), (2, .fn g []), (3, .ptr 0 0), (6, .ptr 1 0), (7, .fz .raw .nilIface), (9, .ptr 2 0), (34, .fz int a.2.1), (35, .fz int r), (10, .fz int r), (39, .fz int a.1), (40, .fz int c), (11, .fz int c), (12, .ref 4 0 (segs a reach c (max 0 (r - reach)) k).length), (13, .fz int (max 0 (r - reach) + k))], [.box [.fz int a.1, .fz int a.2.1, .fz (.list int) a.2.2], .box [.fz int 0, .fz int 0, .nilSl], .box [.fz int a.1, .fz int a.2.1, .ref 3 0 (allW F a reach r ++ rowW F a reach r c).length], .row int (allW F a reach r ++ rowW F a reach r c), .row int (segs a reach c (max 0 (r - reach)) k)]⟩, fun k => max 0 (r - reach) + (k : Int) ≤ min (a.2.1 - 1) (r + reach) + 1, fun k => 128 - k, 0, by show max 0 (r - reach) + ((0 : Nat) : Int) ≤ _; omega, (Ent.nil 12 int rfl).trans (Ent.sub rfl ⟨rfl, rfl, rfl, rfl, rfl, rfl, rfl, rfl, rfl, rfl, rfl, rfl, rfl, congrArg (AV.fz int) (show _ = max 0 ((r : Int) - reach) + ((0 : Nat) : Int) by omega)⟩), ?_⟩
        intro k hk
        have hp : max 0 (r - reach) + (k : Int) ≤ min (a.2.1 - 1) (r + reach) → 0 ≤ (max 0 (r - reach) + (k : Int)) * a.1 ∧ (max 0 (r - reach) + (k : Int)) * a.1 + a.1 ≤ a.1 * a.2.1 := fun h => row_bd (by omega) (by omega) (by omega)
        (repeat' (first | exact trivial | exact fun h => h | refine And.intro ?_ ?_ | (intro hb; first | (simp at hb; done) | (simp at hb) | skip) | omega | exact rfl | exact Nat.le_refl _ | (show _ + 1 ≤ 4294967296; omega) | (dsimp only; omega) | (show wantB _ _ = true; simp; done) | (show wantB _ _ = true; simp; omega) | (show (_ : Bool) = _; simp_all; done) | (exfalso; omega) | refine aRegion_auto (by decide +kernel) ?_ | fail))
        · have h1 := segs_len hW2 reach c (max 0 (r - reach)) k
          have h2 := seg_len hW2 reach c (max 0 (r - reach) + k)
          have h3 : (segs a reach c (max 0 (r - reach)) k).length + (seg a reach c (max 0 (r - reach) + k)).length ≤ 4294967296 := by omega
          exact h3
        · refine ⟨k + 1, by show _ + ((k + 1 : Nat) : Int) ≤ _; omega, by show _ - _ < _ - _; omega, Ent.ren [0, 1, 2, 3, 5] rfl ?_ ?_⟩
          · (repeat' (first | exact trivial | exact rfl | refine And.intro ?_ ?_))
            exact congrArg (fun l => some (AO.row int (l ++ seg a reach c (max 0 (r - reach) + k)))) (List.take_length (l := segs a reach c (max 0 (r - reach)) k))
          · (repeat' (first | exact trivial | exact rfl | refine And.intro ?_ ?_))
            · exact congrArg (AV.ref 5 0) (List.length_append).symm
            · exact congrArg (AV.fz int) (show max 0 ((r : Int) - reach) + (k : Int) + 1 = max 0 ((r : Int) - reach) + ((k + 1 : Nat) : Int) by omega)
        · have hk' : k = (min (a.2.1 - 1) (r + reach) + 1 - max 0 (r - reach)).toNat := by omega
          subst hk'
          (repeat' (first | exact trivial | exact fun h => h | refine And.intro ?_ ?_ | (intro hb; first | (simp at hb; done) | (simp at hb) | skip) | omega | exact rfl | exact Nat.le_refl _ | (show _ + 1 ≤ 4294967296; omega) | (dsimp only; omega) | (show wantB _ _ = true; simp; done) | (show wantB _ _ = true; simp; omega) | (show (_ : Bool) = _; simp_all; done) | (exfalso; omega) | refine aRegion_auto (by decide +kernel) ?_ | fail))
          apply exEff
          · refine acall_lend [.dat (.list int)] _ _ _ rfl ?_ rfl ?_
            · (repeat' (first | exact trivial | refine And.intro ?_ ?_ | (show _ ≤ _; omega) | (show _ ≤ _; simp; done)))
            refine acall_arg (hg (winW a reach r c) _ (win_ne (by omega) (by omega) (by omega) hlen) (by have := segs_len hW2 reach c (max 0 (r - reach)) (min (a.2.1 - 1) (r + reach) + 1 - max 0 (r - reach)).toNat; unfold winW; omega) (fun x hx => hbig x (segs_mem hx)) ?_) (congrArg (fun l => [AV.fz (.list int) l]) (List.take_length (l := winW a reach r c)).symm)
            exact ⟨rfl, rfl, rfl⟩
          (repeat' (first | exact trivial | exact fun h => h | refine And.intro ?_ ?_ | (intro hb; first | (simp at hb; done) | (simp at hb) | skip) | omega | exact rfl | exact Nat.le_refl _ | (show _ + 1 ≤ 4294967296; omega) | (dsimp only; omega) | (show wantB _ _ = true; simp; done) | (show wantB _ _ = true; simp; omega) | (show (_ : Bool) = _; simp_all; done) | (exfalso; omega) | refine aRegion_auto (by decide +kernel) ?_ | fail))
          have hal : (allW F a reach r ++ rowW F a reach r c).length ≤ 16512 := by
            rw [List.length_append, allW_len, rowW_len]
            have : r * a.1.toNat ≤ 128 * 128 := Nat.mul_le_mul (by omega) (by omega)
            omega
          (apply exEff; focus (repeat' (first | exact ⟨rfl, rfl⟩ | exact trivial | refine And.intro ?_ ?_ | omega | exact Nat.le_refl _ | (show _ + 1 ≤ 4294967296; omega))))
          (apply exEff; focus (repeat' (first | exact ⟨rfl, rfl⟩ | exact trivial | refine And.intro ?_ ?_ | omega | exact Nat.le_refl _ | (show _ + 1 ≤ 4294967296; omega))))
          (apply exEff; focus (repeat' (first | exact ⟨rfl, rfl⟩ | exact trivial | refine And.intro ?_ ?_ | omega | exact Nat.le_refl _ | (show _ + 1 ≤ 4294967296; omega))))
          (repeat' (first | exact trivial | exact fun h => h | refine And.intro ?_ ?_ | (intro hb; first | (simp at hb; done) | (simp at hb) | skip) | omega | exact rfl | exact Nat.le_refl _ | (show _ + 1 ≤ 4294967296; omega) | (dsimp only; omega) | (show wantB _ _ = true; simp; done) | (show wantB _ _ = true; simp; omega) | (show (_ : Bool) = _; simp_all; done) | (exfalso; omega) | refine aRegion_auto (by decide +kernel) ?_ | fail))
          refine ⟨c + 1, by show ((c + 1 : Nat) : Int) ≤ _; omega, by show _ - _ < _ - _; omega, Ent.ren [0, 1, 2, 6] rfl ?_ ?_⟩
          · (repeat' (first | exact trivial | exact rfl | refine And.intro ?_ ?_))
            · exact congrArg (fun n => some (AO.box [.fz int a.1, .fz int a.2.1, .ref 6 0 n])) (show (allW F a reach r ++ rowW F a reach r c).length + 1 = (allW F a reach r ++ (rowW F a reach r c ++ [F (winW a reach r c)])).length by rw [← List.append_assoc, List.length_append (bs := [_])]; rfl)
            · exact congrArg (fun l => some (AO.row int l)) (show List.take (allW F a reach r ++ rowW F a reach r c).length (allW F a reach r ++ rowW F a reach r c) ++ [F (winW a reach r c)] = allW F a reach r ++ (rowW F a reach r c ++ [F (winW a reach r c)]) by rw [List.take_length, List.append_assoc])
          · (repeat' (first | exact trivial | exact rfl | refine And.intro ?_ ?_))
      · have hc : c = a.1.toNat := by omega
        subst hc
        (repeat' (first | exact trivial | exact fun h => h | refine And.intro ?_ ?_ | (intro hb; first | (simp at hb; done) | (simp at hb) | skip) | omega | exact rfl | exact Nat.le_refl _ | (show _ + 1 ≤ 4294967296; omega) | (dsimp only; omega) | (show wantB _ _ = true; simp; done) | (show wantB _ _ = true; simp; omega) | (show (_ : Bool) = _; simp_all; done) | (exfalso; omega) | refine aRegion_auto (by decide +kernel) ?_ | fail))
        refine ⟨r + 1, by show ((r + 1 : Nat) : Int) ≤ _; omega, by show _ - _ < _ - _; omega, Ent.sub rfl ?_⟩
        (repeat' (first | exact trivial | exact rfl | refine And.intro ?_ ?_))
    · have hr' : r = a.2.1.toNat := by omega
      subst hr'
      (repeat' (first | exact trivial | exact fun h => h | refine And.intro ?_ ?_ | (intro hb; first | (simp at hb; done) | (simp at hb) | skip) | omega | exact rfl | exact Nat.le_refl _ | (show _ + 1 ≤ 4294967296; omega) | (dsimp only; omega) | (show wantB _ _ = true; simp; done) | (show wantB _ _ = true; simp; omega) | (show (_ : Bool) = _; simp_all; done) | (exfalso; omega) | refine aRegion_auto (by decide +kernel) ?_ | fail))
      refine ⟨_, _, (REnt.conv [.dat RasT, .keep] _ rfl ?_).trans (REnt.drop ⟨rfl, rfl⟩), ?_⟩
      · (repeat' (first | exact trivial | refine And.intro ?_ ?_ | (show _ ≤ _; omega) | (show _ ≤ _; simp; done)))
      · exact (congrArg (fun l => K (.tup [.fz RasT (a.1, a.2.1, l), .fz .raw .nilIface]) []) List.take_length).mpr (h0 hv (by omega) (by omega))
  · (repeat' (first | exact trivial | exact fun h => h | refine And.intro ?_ ?_ | (intro hb; first | (simp at hb; done) | (simp at hb) | skip) | omega | exact rfl | exact Nat.le_refl _ | (show _ + 1 ≤ 4294967296; omega) | (dsimp only; omega) | (show wantB _ _ = true; simp; done) | (show wantB _ _ = true; simp; omega) | (show (_ : Bool) = _; simp_all; done) | (exfalso; omega) | refine aRegion_auto (by decide +kernel) ?_ | fail))
    refine ⟨_, _, (REnt.conv [.dat RasT, .keep] _ rfl trivial).trans (REnt.drop ⟨rfl, rfl⟩), ?_⟩
    exact he e (by unfold aerr; rw [if_pos (by omega)]; exact hv) he0
end Go.Proofs.YtidhgdipnfhoeaaDoor
/-
  Most, least; opened, closed; two rasters.
-/
namespace Go.Proofs.YtidhgdipnfhoeaaDoor
open Go Go.Ab
set_option maxRecDepth 100000
abbrev RE (a : Ras) (v : Value) : AV := .tup [.fz RasT a, .fz .raw v]
theorem most_any (E : Errs) (a : Ras) (reach : Int) (hl : a.2.2.length ≤ 1000000000000) (hr : I64 reach) (K : AV → List AO → Prop)
    (h0 : rerr a = 0 → 0 ≤ reach → reach ≤ 128 → K (RE (a.1, a.2.1, allW maxL a reach a.2.1.toNat) .nilIface) [])
    (he : ∀ e, aerr a reach = e → 0 < e → K (RE (0, 0, []) (errV (errA E e))) []) : ACall Tryd.prog (GE E) 28 [.fz RasT a, .fz int reach] [] K := by
  refine acall_mk (E := envAt (GE E) 11 0) (envOk _ _ _) Tryd.func28 rfl rfl rfl rfl rfl ?_
  (repeat' (first | exact trivial | exact fun h => h | refine And.intro ?_ ?_ | (intro hb; first | (simp at hb; done) | (simp at hb) | skip) | omega | exact rfl | exact Nat.le_refl _ | (show _ + 1 ≤ 4294967296; omega) | (dsimp only; omega) | (show wantB _ _ = true; simp; done) | (show wantB _ _ = true; simp; omega) | (show (_ : Bool) = _; simp_all; done) | (exfalso; omega) | refine aRegion_auto (by decide +kernel) ?_ | fail))
  refine acall_conv [.dat RasT, .keep, .keep] _ _ _ rfl trivial (acall_frame0 rfl (around_any E a reach _ maxL (fun xs K hn hs _ hK => max_any _ xs hn (by omega) K hK) hl hr _ (fun h1 h2 h3 => ?_) (fun e h1 h2 => ?_)))
  · (repeat' (first | exact trivial | exact fun h => h | refine And.intro ?_ ?_ | (intro hb; first | (simp at hb; done) | (simp at hb) | skip) | omega | exact rfl | exact Nat.le_refl _ | (show _ + 1 ≤ 4294967296; omega) | (dsimp only; omega) | (show wantB _ _ = true; simp; done) | (show wantB _ _ = true; simp; omega) | (show (_ : Bool) = _; simp_all; done) | (exfalso; omega) | refine aRegion_auto (by decide +kernel) ?_ | fail))
    refine ⟨_, _, (REnt.conv [.dat RasT, .keep] _ rfl trivial).trans (REnt.drop ⟨rfl, rfl⟩), ?_⟩
    exact h0 h1 h2 h3
  · (repeat' (first | exact trivial | exact fun h => h | refine And.intro ?_ ?_ | (intro hb; first | (simp at hb; done) | (simp at hb) | skip) | omega | exact rfl | exact Nat.le_refl _ | (show _ + 1 ≤ 4294967296; omega) | (dsimp only; omega) | (show wantB _ _ = true; simp; done) | (show wantB _ _ = true; simp; omega) | (show (_ : Bool) = _; simp_all; done) | (exfalso; omega) | refine aRegion_auto (by decide +kernel) ?_ | fail))
    refine ⟨_, _, (REnt.conv [.dat RasT, .keep] _ rfl trivial).trans (REnt.drop ⟨rfl, rfl⟩), ?_⟩
    exact he e h1 h2
theorem least_any (E : Errs) (a : Ras) (reach : Int) (hl : a.2.2.length ≤ 1000000000000) (hr : I64 reach) (K : AV → List AO → Prop)
    (h0 : rerr a = 0 → 0 ≤ reach → reach ≤ 128 → K (RE (a.1, a.2.1, allW minL a reach a.2.1.toNat) .nilIface) [])
    (he : ∀ e, aerr a reach = e → 0 < e → K (RE (0, 0, []) (errV (errA E e))) []) : ACall Tryd.prog (GE E) 29 [.fz RasT a, .fz int reach] [] K := by
  refine acall_mk (E := envAt (GE E) 11 0) (envOk _ _ _) Tryd.func29 rfl rfl rfl rfl rfl ?_
  (repeat' (first | exact trivial | exact fun h => h | refine And.intro ?_ ?_ | (intro hb; first | (simp at hb; done) | (simp at hb) | skip) | omega | exact rfl | exact Nat.le_refl _ | (show _ + 1 ≤ 4294967296; omega) | (dsimp only; omega) | (show wantB _ _ = true; simp; done) | (show wantB _ _ = true; simp; omega) | (show (_ : Bool) = _; simp_all; done) | (exfalso; omega) | refine aRegion_auto (by decide +kernel) ?_ | fail))
  refine acall_conv [.dat RasT, .keep, .keep] _ _ _ rfl trivial (acall_frame0 rfl (around_any E a reach _ minL (fun xs K hn hs _ hK => min_any _ xs hn (by omega) K hK) hl hr _ (fun h1 h2 h3 => ?_) (fun e h1 h2 => ?_)))
  · (repeat' (first | exact trivial | exact fun h => h | refine And.intro ?_ ?_ | (intro hb; first | (simp at hb; done) | (simp at hb) | skip) | omega | exact rfl | exact Nat.le_refl _ | (show _ + 1 ≤ 4294967296; omega) | (dsimp only; omega) | (show wantB _ _ = true; simp; done) | (show wantB _ _ = true; simp; omega) | (show (_ : Bool) = _; simp_all; done) | (exfalso; omega) | refine aRegion_auto (by decide +kernel) ?_ | fail))
    refine ⟨_, _, (REnt.conv [.dat RasT, .keep] _ rfl trivial).trans (REnt.drop ⟨rfl, rfl⟩), ?_⟩
    exact h0 h1 h2 h3
  · (repeat' (first | exact trivial | exact fun h => h | refine And.intro ?_ ?_ | (intro hb; first | (simp at hb; done) | (simp at hb) | skip) | omega | exact rfl | exact Nat.le_refl _ | (show _ + 1 ≤ 4294967296; omega) | (dsimp only; omega) | (show wantB _ _ = true; simp; done) | (show wantB _ _ = true; simp; omega) | (show (_ : Bool) = _; simp_all; done) | (exfalso; omega) | refine aRegion_auto (by decide +kernel) ?_ | fail))
    refine ⟨_, _, (REnt.conv [.dat RasT, .keep] _ rfl trivial).trans (REnt.drop ⟨rfl, rfl⟩), ?_⟩
    exact he e h1 h2
/-- most, least of a raster -/
def onR (F : List Int → Int) (a : Ras) (reach : Int) : Ras := (a.1, a.2.1, allW F a reach a.2.1.toNat)
theorem onR_len {F : List Int → Int} {a : Ras} {reach : Int} (h : rerr a = 0) : (onR F a reach).2.2.length = a.2.2.length := by
  obtain ⟨⟨h1, h2, _, _, h3⟩, _⟩ := rerr_ok h
  show (allW F a reach a.2.1.toNat).length = _
  rw [allW_len]
  have : ((a.2.1.toNat * a.1.toNat : Nat) : Int) = a.2.1 * a.1 := by rw [Int.natCast_mul]; congr 1 <;> omega
  rw [Int.mul_comm] at this; omega
theorem open_any (E : Errs) (a : Ras) (reach : Int) (h0 : rerr a = 0) (h1 : 0 ≤ reach) (h2 : reach ≤ 128) (hb : rerr (onR minL a reach) = 0) (hl : a.2.2.length ≤ 1000000000000) (K : AV → List AO → Prop)
    (hK : K (RE (onR maxL (onR minL a reach) reach) .nilIface) []) : ACall Tryd.prog (GE E) 11 [.fz RasT a, .fz int reach] [] K := by
  have hr : I64 reach := ⟨by omega, by omega⟩
  have ha : ∀ e, aerr a reach = e → 0 < e → False := fun e h he => by unfold aerr at h; rw [if_neg (by omega), if_neg (by omega)] at h; omega
  have hb' : ∀ e, aerr (onR minL a reach) reach = e → 0 < e → False := fun e h he => by unfold aerr at h; rw [if_neg (by omega), if_neg (by omega)] at h; omega
  refine acall_mk (E := envAt (GE E) 23 0) (envOk _ _ _) Tryd.func11 rfl rfl rfl rfl rfl ?_
  (repeat' (first | exact trivial | exact fun h => h | refine And.intro ?_ ?_ | (intro hb; first | (simp at hb; done) | (simp at hb) | skip) | omega | exact rfl | exact Nat.le_refl _ | (show _ + 1 ≤ 4294967296; omega) | (dsimp only; omega) | (show wantB _ _ = true; simp; done) | (show wantB _ _ = true; simp; omega) | (show (_ : Bool) = _; simp_all; done) | (exfalso; omega) | refine aRegion_auto (by decide +kernel) ?_ | fail))
  refine acall_conv [.dat RasT, .keep] _ _ _ rfl trivial (acall_frame0 rfl (least_any E a reach hl hr _ (fun _ _ _ => ?_) (fun e g1 g2 => (ha e g1 g2).elim)))
  (repeat' (first | exact trivial | exact fun h => h | refine And.intro ?_ ?_ | (intro hb; first | (simp at hb; done) | (simp at hb) | skip) | omega | exact rfl | exact Nat.le_refl _ | (show _ + 1 ≤ 4294967296; omega) | (dsimp only; omega) | (show wantB _ _ = true; simp; done) | (show wantB _ _ = true; simp; omega) | (show (_ : Bool) = _; simp_all; done) | (exfalso; omega) | refine aRegion_auto (by decide +kernel) ?_ | fail))
  refine acall_conv [.dat RasT, .keep] _ _ _ rfl trivial (acall_frame0 rfl (most_any E (onR minL a reach) reach (by rw [onR_len h0]; exact hl) hr _ (fun _ _ _ => ?_) (fun e g1 g2 => (hb' e g1 g2).elim)))
  (repeat' (first | exact trivial | exact fun h => h | refine And.intro ?_ ?_ | (intro hb; first | (simp at hb; done) | (simp at hb) | skip) | omega | exact rfl | exact Nat.le_refl _ | (show _ + 1 ≤ 4294967296; omega) | (dsimp only; omega) | (show wantB _ _ = true; simp; done) | (show wantB _ _ = true; simp; omega) | (show (_ : Bool) = _; simp_all; done) | (exfalso; omega) | refine aRegion_auto (by decide +kernel) ?_ | fail))
  refine ⟨_, _, (REnt.conv [.dat RasT, .keep] _ rfl trivial).trans (REnt.drop ⟨rfl, rfl⟩), ?_⟩
  exact hK
theorem close_any (E : Errs) (a : Ras) (reach : Int) (h0 : rerr a = 0) (h1 : 0 ≤ reach) (h2 : reach ≤ 128) (hb : rerr (onR maxL a reach) = 0) (hl : a.2.2.length ≤ 1000000000000) (K : AV → List AO → Prop)
    (hK : K (RE (onR minL (onR maxL a reach) reach) .nilIface) []) : ACall Tryd.prog (GE E) 12 [.fz RasT a, .fz int reach] [] K := by
  have hr : I64 reach := ⟨by omega, by omega⟩
  have ha : ∀ e, aerr a reach = e → 0 < e → False := fun e h he => by unfold aerr at h; rw [if_neg (by omega), if_neg (by omega)] at h; omega
  have hb' : ∀ e, aerr (onR maxL a reach) reach = e → 0 < e → False := fun e h he => by unfold aerr at h; rw [if_neg (by omega), if_neg (by omega)] at h; omega
  refine acall_mk (E := envAt (GE E) 23 0) (envOk _ _ _) Tryd.func12 rfl rfl rfl rfl rfl ?_
  (repeat' (first | exact trivial | exact fun h => h | refine And.intro ?_ ?_ | (intro hb; first | (simp at hb; done) | (simp at hb) | skip) | omega | exact rfl | exact Nat.le_refl _ | (show _ + 1 ≤ 4294967296; omega) | (dsimp only; omega) | (show wantB _ _ = true; simp; done) | (show wantB _ _ = true; simp; omega) | (show (_ : Bool) = _; simp_all; done) | (exfalso; omega) | refine aRegion_auto (by decide +kernel) ?_ | fail))
  refine acall_conv [.dat RasT, .keep] _ _ _ rfl trivial (acall_frame0 rfl (most_any E a reach hl hr _ (fun _ _ _ => ?_) (fun e g1 g2 => (ha e g1 g2).elim)))
  (repeat' (first | exact trivial | exact fun h => h | refine And.intro ?_ ?_ | (intro hb; first | (simp at hb; done) | (simp at hb) | skip) | omega | exact rfl | exact Nat.le_refl _ | (show _ + 1 ≤ 4294967296; omega) | (dsimp only; omega) | (show wantB _ _ = true; simp; done) | (show wantB _ _ = true; simp; omega) | (show (_ : Bool) = _; simp_all; done) | (exfalso; omega) | refine aRegion_auto (by decide +kernel) ?_ | fail))
  refine acall_conv [.dat RasT, .keep] _ _ _ rfl trivial (acall_frame0 rfl (least_any E (onR maxL a reach) reach (by rw [onR_len h0]; exact hl) hr _ (fun _ _ _ => ?_) (fun e g1 g2 => (hb' e g1 g2).elim)))
  (repeat' (first | exact trivial | exact fun h => h | refine And.intro ?_ ?_ | (intro hb; first | (simp at hb; done) | (simp at hb) | skip) | omega | exact rfl | exact Nat.le_refl _ | (show _ + 1 ≤ 4294967296; omega) | (dsimp only; omega) | (show wantB _ _ = true; simp; done) | (show wantB _ _ = true; simp; omega) | (show (_ : Bool) = _; simp_all; done) | (exfalso; omega) | refine aRegion_auto (by decide +kernel) ?_ | fail))
  refine ⟨_, _, (REnt.conv [.dat RasT, .keep] _ rfl trivial).trans (REnt.drop ⟨rfl, rfl⟩), ?_⟩
  exact hK
end Go.Proofs.YtidhgdipnfhoeaaDoor
/-
  The same numbers; a raster of such a size; two rasters.
-/
namespace Go.Proofs.YtidhgdipnfhoeaaDoor
open Go Go.Ab
set_option maxRecDepth 100000
theorem sameInts_any (G : List (Nat × Value)) (xs ys : List Int) (hl : xs.length ≤ 1000000000000) (K : AV → List AO → Prop) (hK : K (.fz .bool (decide (xs = ys))) []) :
    ACall Tryd.prog G 32 [.fz (.list int) xs, .fz (.list int) ys] [] K := by
  refine acall_mk (E := envAt G 26 0) (envOk _ _ _) Tryd.func32 rfl rfl rfl rfl rfl ?_
  (repeat' (first | exact trivial | exact fun h => h | refine And.intro ?_ ?_ | (intro hb; first | (simp at hb; done) | (simp at hb) | skip) | omega | exact rfl | exact Nat.le_refl _ | (show _ + 1 ≤ 4294967296; omega) | (dsimp only; omega) | (show wantB _ _ = true; simp; done) | (show wantB _ _ = true; simp; omega) | (show (_ : Bool) = _; simp_all; done) | (exfalso; omega) | refine aRegion_auto (by decide +kernel) ?_ | fail))
  · refine ⟨_, _, REnt.drop ⟨rfl, rfl⟩, ?_⟩
    have : decide (xs = ys) = false := by simp; intro h; subst h; exact hb rfl
    rw [this] at hK; exact hK
  refine ⟨Nat, fun k => ⟨[(0, .fz (.list int) xs), (1, .fz (.list int) ys), (5, .fz int k)], []⟩, fun k => k ≤ xs.length ∧ ∀ j, j < k → xs.getD j 0 = ys.getD j 0, fun k => xs.length - k, 0, ⟨Nat.zero_le _, fun j h => absurd h (Nat.not_lt_zero _)⟩, Ent.sub rfl ⟨rfl, rfl, rfl⟩, ?_⟩
  intro k ⟨hk, hp⟩
  (repeat' (first | exact trivial | exact fun h => h | refine And.intro ?_ ?_ | (intro hb; first | (simp at hb; done) | (simp at hb) | skip) | omega | exact rfl | exact Nat.le_refl _ | (show _ + 1 ≤ 4294967296; omega) | (dsimp only; omega) | (show wantB _ _ = true; simp; done) | (show wantB _ _ = true; simp; omega) | (show (_ : Bool) = _; simp_all; done) | (exfalso; omega) | refine aRegion_auto (by decide +kernel) ?_ | fail))
  · refine ⟨_, _, REnt.drop ⟨rfl, rfl⟩, ?_⟩
    have : decide (xs = ys) = false := by
      simp; intro h; subst h
      exact hb rfl
    rw [this] at hK; exact hK
  · refine ⟨k + 1, ⟨by omega, fun j hj => ?_⟩, by show _ - _ < _ - _; omega, Ent.sub rfl ⟨rfl, rfl, rfl⟩⟩
    by_cases h : j = k
    · subst h; exact hb
    · exact hp j (by omega)
  · refine ⟨_, _, REnt.drop ⟨rfl, rfl⟩, ?_⟩
    have : decide (xs = ys) = true := by
      simp
      refine List.ext_getElem (by omega) fun i h1 h2 => ?_
      have := hp i (by omega)
      simpa [List.getD, h1, h2] using this
    rw [this] at hK; exact hK
def isB (a : Ras) (w h : Int) (l : List Int) : Bool := decide (a.1 = w) && decide (a.2.1 = h) && decide (a.2.2 = l)
theorem is_any (G : List (Nat × Value)) (a : Ras) (w h : Int) (l : List Int) (hl : a.2.2.length ≤ 1000000000000) (K : AV → List AO → Prop) (hK : K (.fz .bool (isB a w h l)) []) :
    ACall Tryd.prog G 13 [.fz RasT a, .fz int w, .fz int h, .fz (.list int) l] [] K := by
  refine acall_mk (E := envAt G 25 0) (envOk _ _ _) Tryd.func13 rfl rfl rfl rfl rfl ?_
  (repeat' (first | exact trivial | exact fun h => h | refine And.intro ?_ ?_ | (intro hb; first | (simp at hb; done) | (simp at hb) | skip) | omega | exact rfl | exact Nat.le_refl _ | (show _ + 1 ≤ 4294967296; omega) | (dsimp only; omega) | (show wantB _ _ = true; simp; done) | (show wantB _ _ = true; simp; omega) | (show (_ : Bool) = _; simp_all; done) | (exfalso; omega) | refine aRegion_auto (by decide +kernel) ?_ | refine ⟨_, _, REnt.drop ⟨rfl, rfl⟩, ?_⟩ | fail))
  · refine acall_frame0 rfl (sameInts_any _ _ _ hl _ ?_)
    (repeat' (first | exact trivial | exact fun h => h | refine And.intro ?_ ?_ | (intro hb; first | (simp at hb; done) | (simp at hb) | skip) | omega | exact rfl | exact Nat.le_refl _ | (show _ + 1 ≤ 4294967296; omega) | (dsimp only; omega) | (show wantB _ _ = true; simp; done) | (show wantB _ _ = true; simp; omega) | (show (_ : Bool) = _; simp_all; done) | (exfalso; omega) | refine aRegion_auto (by decide +kernel) ?_ | refine ⟨_, _, REnt.drop ⟨rfl, rfl⟩, ?_⟩ | fail))
    have e : isB a w h l = decide (a.2.2 = l) := by simp [isB, hb]
    simp only [hb, beq_self_eq_true, cond_true]
    rw [e] at hK; exact hK
  · have e : isB a w h l = false := by
      unfold isB
      by_cases h1 : a.1 = w
      · simp [h1, hb h1]
      · simp [h1]
    rw [e] at hK; exact hK
end Go.Proofs.YtidhgdipnfhoeaaDoor
/-
  Two rasters, cell by cell.
-/
namespace Go.Proofs.YtidhgdipnfhoeaaDoor
open Go Go.Ab
set_option maxRecDepth 100000
theorem kb {K : AV → List AO → Prop} {b b' : Bool} (h : K (.fz .bool b) []) (e : b = b') : K (.fz .bool b') [] := e ▸ h
theorem kz {K : AV → List AO → Prop} {b b' : Int} (h : K (.fz int b) []) (e : b = b') : K (.fz int b') [] := e ▸ h
def perr (a b : Ras) : Nat := if 0 < rerr a then rerr a else if 0 < rerr b then rerr b else if a.1 ≠ b.1 ∨ a.2.1 ≠ b.2.1 then 3 else 0
theorem alike_any (E : Errs) (a b : Ras) (ha : a.2.2.length ≤ 1000000000000) (hb : b.2.2.length ≤ 1000000000000) (K : AV → List AO → Prop)
    (h0 : perr a b = 0 → K (.fz .raw .nilIface) []) (he : ∀ e, perr a b = e → 0 < e → K (.fz .raw (errV (errA E e))) []) : ACall Tryd.prog (GE E) 33 [.fz RasT a, .fz RasT b] [] K := by
  refine acall_mk (E := envAt (GE E) 35 0) (envOk _ _ _) Tryd.func33 rfl rfl rfl rfl rfl ?_
  (repeat' (first | exact trivial | exact fun h => h | refine And.intro ?_ ?_ | (intro hb; first | (simp at hb; done) | (simp at hb) | skip) | omega | exact rfl | exact Nat.le_refl _ | (show _ + 1 ≤ 4294967296; omega) | (dsimp only; omega) | (show wantB _ _ = true; simp; done) | (show wantB _ _ = true; simp; omega) | (show (_ : Bool) = _; simp_all; done) | (exfalso; omega) | refine aRegion_auto (by decide +kernel) ?_ | refine ⟨_, _, REnt.drop ⟨rfl, rfl⟩, ?_⟩ | fail))
  refine ⟨Nat, fun k => ⟨[(2, .ptr 0 0), (3, .ptr 1 0), (4, .fz .raw .nilIface), (10, .ref 2 0 2), (11, .fz int 2), (12, .fz int k)], [.box [.fz int a.1, .fz int a.2.1, .fz (.list int) a.2.2], .box [.fz int b.1, .fz int b.2.1, .fz (.list int) b.2.2], .row RasT [a, b]]⟩, fun k => k ≤ 2 ∧ ∀ j, j < k → rerr (([a, b] : List Ras).getD j a) = 0, fun k => 2 - k, 0, ⟨Nat.zero_le _, fun j h => absurd h (Nat.not_lt_zero _)⟩, Ent.sub rfl ⟨rfl, rfl, rfl, rfl, rfl, rfl⟩, ?_⟩
  intro k ⟨hk, hp⟩
  have hl2 : List.length ([a, b] : List RasT.den) = 2 := rfl
  (repeat' (first | exact trivial | exact fun h => h | refine And.intro ?_ ?_ | (intro hb; first | (simp at hb; done) | (simp at hb) | skip) | omega | exact rfl | exact Nat.le_refl _ | (show _ + 1 ≤ 4294967296; omega) | (dsimp only; omega) | (show wantB _ _ = true; simp; done) | (show wantB _ _ = true; simp; omega) | (show (_ : Bool) = _; simp_all; done) | (exfalso; omega) | refine aRegion_auto (by decide +kernel) ?_ | refine ⟨_, _, REnt.drop ⟨rfl, rfl⟩, ?_⟩ | fail))
  · have hx : ∀ P : Ras → Prop, P a → P b → P (([a, b] : List Ras).getD (0 + Int.toNat (k : Int)) (Ty.dft RasT)) := by
      intro P h1 h2
      rcases (show k = 0 ∨ k = 1 by omega) with rfl | rfl
      · exact h1
      · exact h2
    refine acall_conv [.dat RasT] _ _ _ rfl trivial (acall_frame0 rfl (valid_err E _ (hx (fun x => x.2.2.length ≤ 1000000000000) ha (by assumption)) _ (fun h => ?_) (fun e h1 h2 => ?_)))
    · (repeat' (first | exact trivial | exact fun h => h | refine And.intro ?_ ?_ | (intro hb; first | (simp at hb; done) | (simp at hb) | skip) | omega | exact rfl | exact Nat.le_refl _ | (show _ + 1 ≤ 4294967296; omega) | (dsimp only; omega) | (show wantB _ _ = true; simp; done) | (show wantB _ _ = true; simp; omega) | (show (_ : Bool) = _; simp_all; done) | (exfalso; omega) | refine aRegion_auto (by decide +kernel) ?_ | refine ⟨_, _, REnt.drop ⟨rfl, rfl⟩, ?_⟩ | fail))
      refine ⟨k + 1, ⟨by omega, fun j hj => ?_⟩, by show _ - _ < _ - _; omega, Ent.ren [0, 1, 2] rfl ?_ ?_⟩
      · by_cases hjk : j = k
        · subst hjk
          rcases (show j = 0 ∨ j = 1 by omega) with rfl | rfl
          · exact h
          · exact h
        · exact hp j (by omega)
      · (repeat' (first | exact trivial | exact rfl | refine And.intro ?_ ?_))
      · (repeat' (first | exact trivial | exact rfl | refine And.intro ?_ ?_))
    · (repeat' (first | exact trivial | exact fun h => h | refine And.intro ?_ ?_ | (intro hb; first | (simp at hb; done) | (simp at hb) | skip) | omega | exact rfl | exact Nat.le_refl _ | (show _ + 1 ≤ 4294967296; omega) | (dsimp only; omega) | (show wantB _ _ = true; simp; done) | (show wantB _ _ = true; simp; omega) | (show (_ : Bool) = _; simp_all; done) | (exfalso; omega) | refine aRegion_auto (by decide +kernel) ?_ | refine ⟨_, _, REnt.drop ⟨rfl, rfl⟩, ?_⟩ | fail))
      refine he e ?_ h2
      rcases (show k = 0 ∨ k = 1 by omega) with rfl | rfl
      · have h1 : rerr a = e := h1
        unfold perr; rw [if_pos (by omega)]; exact h1
      · have h1 : rerr b = e := h1
        have h3 := hp 0 (by omega)
        simp at h3
        unfold perr; rw [if_neg (by omega), if_pos (by omega)]; exact h1
  · refine he 3 ?_ (by decide)
    have h1 := hp 0 (by omega)
    have h2 := hp 1 (by omega)
    simp at h1 h2
    unfold perr; rw [if_neg (by omega), if_neg (by omega), if_pos hb]
  · refine h0 ?_
    have h1 := hp 0 (by omega)
    have h2 := hp 1 (by omega)
    simp at h1 h2
    unfold perr; rw [if_neg (by omega), if_neg (by omega), if_neg (by omega)]
end Go.Proofs.YtidhgdipnfhoeaaDoor
/-
  Two rasters, cell by cell.
-/
namespace Go.Proofs.YtidhgdipnfhoeaaDoor
open Go Go.Ab
set_option maxRecDepth 100000
def opTwo (how x y : Int) : Int := if how = 43 then x + y else if how = 45 then x - y else if how = 62 then max x y else min x y
def outL (f : Nat → Int) (n k : Nat) : List Int := (List.range n).map fun j => if j < k then f j else 0
theorem outL_set (f : Nat → Int) (n k : Nat) : List.set (outL f n k) k (f k) = outL f n (k + 1) := by
  unfold outL
  apply List.ext_getElem (by simp)
  intro i h1 h2
  simp at h1 h2
  rw [List.getElem_set]
  by_cases h : k = i
  · subst h; simp
  · rw [if_neg h]; simp
    by_cases h3 : i < k
    · rw [if_pos h3, if_pos (by omega)]
    · rw [if_neg h3, if_neg (by omega)]
theorem outL_zero (f : Nat → Int) (n : Nat) : List.replicate n (0 : Int) = outL f n 0 := by
  unfold outL
  apply List.ext_getElem (by simp)
  intro i h1 h2
  simp
theorem outL_len (f : Nat → Int) (n k : Nat) : (outL f n k).length = n := by simp [outL]
def known (how : Int) : Bool := decide (how = 43) || decide (how = 45) || decide (how = 62) || decide (how = 60)
def twoF (a b : Ras) (how : Int) (j : Nat) : Int := opTwo how (a.2.2.getD j 0) (b.2.2.getD j 0)
def bothR (a b : Ras) (how : Int) : Ras := (a.1, a.2.1, outL (twoF a b how) a.2.2.length a.2.2.length)
def berr (a b : Ras) (how : Int) : Nat := if 0 < perr a b then perr a b else if known how = false then 3 else if 0 < rerr (bothR a b how) then 4 else 0
theorem perr_ok {a b : Ras} (h : perr a b = 0) : rerr a = 0 ∧ rerr b = 0 ∧ a.1 = b.1 ∧ a.2.1 = b.2.1 := by
  unfold perr at h
  split at h; omega
  split at h; omega
  split at h; omega
  omega
theorem getD_big {l : List Int} (h : ∀ x ∈ l, bigB x = false) (i : Nat) : -1048576 ≤ List.getD l i (Ty.dft int) ∧ List.getD l i (Ty.dft int) ≤ 1048576 := by
  by_cases hi : i < l.length
  · have := h _ (List.getElem_mem hi)
    rw [List.getD, List.getElem?_eq_getElem hi]
    unfold bigB at this
    simp at this ⊢; omega
  · rw [List.getD, List.getElem?_eq_none (by omega)]
    exact ⟨by decide, by decide⟩
theorem outL_step (a b : Ras) (how : Int) (n k : Nat) (v : Int) (h : v = twoF a b how k) : List.set (outL (twoF a b how) n k) (0 + k) v = outL (twoF a b how) n (k + 1) := by
  rw [Nat.zero_add, h, outL_set]
set_option maxHeartbeats 4000000 in
theorem both_any (E : Errs) (a b : Ras) (how : Int) (ha : a.2.2.length ≤ 1000000000000) (hb : b.2.2.length ≤ 1000000000000) (K : AV → List AO → Prop)
    (h0 : berr a b how = 0 → K (RE (bothR a b how) .nilIface) []) (he : ∀ e, berr a b how = e → 0 < e → K (RE (0, 0, []) (errV (errA E e))) []) :
    ACall Tryd.prog (GE E) 14 [.fz RasT a, .fz RasT b, .fz (.int .u8) how] [] K := by
  refine acall_mk (E := envAt (GE E) 88 0) (envOk _ _ _) Tryd.func14 rfl rfl rfl rfl rfl ?_
  (repeat' (first | exact trivial | exact fun h => h | refine And.intro ?_ ?_ | (intro hb; first | (simp at hb; done) | (simp at hb) | skip) | omega | exact rfl | exact Nat.le_refl _ | (show _ + 1 ≤ 4294967296; omega) | (dsimp only; omega) | (show wantB _ _ = true; simp; done) | (show wantB _ _ = true; simp; omega) | (show (_ : Bool) = _; simp_all; done) | (exfalso; omega) | refine aRegion_auto (by decide +kernel) ?_ | refine ⟨_, _, REnt.drop ⟨rfl, rfl⟩, ?_⟩ | fail))
  refine acall_conv [.dat RasT, .dat RasT] _ _ _ rfl trivial (acall_frame0 rfl (alike_any E a b ha hb _ (fun hp => ?_) (fun e h1 h2 => ?_)))
  · (repeat' (first | exact trivial | exact fun h => h | refine And.intro ?_ ?_ | (intro hb; first | (simp at hb; done) | (simp at hb) | skip) | omega | exact rfl | exact Nat.le_refl _ | (show _ + 1 ≤ 4294967296; omega) | (dsimp only; omega) | (show wantB _ _ = true; simp; done) | (show wantB _ _ = true; simp; omega) | (show (_ : Bool) = _; simp_all; done) | (exfalso; omega) | refine aRegion_auto (by decide +kernel) ?_ | refine ⟨_, _, REnt.drop ⟨rfl, rfl⟩, ?_⟩ | fail))
    obtain ⟨hpa, hpb, hw, hh⟩ := perr_ok hp
    obtain ⟨⟨hW1, hH1, hW2, hH2, hlen⟩, hbig⟩ := rerr_ok hpa
    obtain ⟨⟨_, _, _, _, hlen'⟩, hbig'⟩ := rerr_ok hpb
    have hn : a.2.2.length ≤ 16384 := by
      have := mul_bd (a := a.1) (b := a.2.1) (A := 128) (B := 128) (by omega) (by omega) (by omega) (by omega); omega
    have hll : b.2.2.length = a.2.2.length := by rw [← hw, ← hh] at hlen'; omega
    let bx : AO := .box [.fz int a.1, .fz int a.2.1, .fz (.list int) a.2.2]
    let by_ : AO := .box [.fz int b.1, .fz int b.2.1, .fz (.list int) b.2.2]
    let bz : AO := .box [.fz int 0, .fz int 0, .nilSl]
    let rw_ : AO := .row int (List.replicate a.2.2.length 0)
    let bo : AO := .box [.fz int a.1, .fz int a.2.1, .ref 4 0 a.2.2.length]
    refine aRegion_open 1 (by decide +kernel) ?_
    (repeat' (first | exact trivial | exact fun h => h | refine And.intro ?_ ?_ | (intro hb; first | (simp at hb; done) | (simp at hb) | skip) | omega | exact rfl | exact Nat.le_refl _ | (show _ + 1 ≤ 4294967296; omega) | (dsimp only; omega) | (show wantB _ _ = true; simp; done) | (show wantB _ _ = true; simp; omega) | (show (_ : Bool) = _; simp_all; done) | (exfalso; omega) | refine aRegion_auto (by decide +kernel) ?_ | fail))
    refine eff_is (.ref 4 0 a.2.2.length) [bx, by_, bz, .row .bool [], rw_] ?_
    (repeat' (first | exact trivial | exact fun h => h | refine And.intro ?_ ?_ | (intro hb; first | (simp at hb; done) | (simp at hb) | skip) | omega | exact rfl | exact Nat.le_refl _ | (show _ + 1 ≤ 4294967296; omega) | (dsimp only; omega) | (show wantB _ _ = true; simp; done) | (show wantB _ _ = true; simp; omega) | (show (_ : Bool) = _; simp_all; done) | (exfalso; omega) | refine aRegion_auto (by decide +kernel) ?_ | fail))
    refine eff_is (.ptr 3 0) [bx, by_, bz, bz, rw_] ?_
    refine eff_is .unk [bx, by_, bz, bo, rw_] ?_
    refine ⟨[(0, [bx, by_, bz, .row .bool []]), (128, [bx, by_, bz, .row .bool [], rw_]), (512, [bx, by_, bz, bz]), (640, [bx, by_, bz, bz, rw_]), (1664, [bx, by_, bz, bo, rw_])], rfl, rfl, ?_, ?_⟩
    · (repeat' (first | refine And.intro ?_ ?_ | exact trivial | exact rfl | omega))
      · refine view_of [0, 1, 2, 3, 4] rfl ?_ rfl rfl
        (repeat' (first | exact trivial | exact rfl | refine And.intro ?_ ?_))
      · refine view_of [0, 1, 2, 4] rfl ?_ rfl rfl
        (repeat' (first | exact trivial | exact rfl | refine And.intro ?_ ?_))
      · refine view_of [0, 1, 2, 5, 4] rfl ?_ rfl rfl
        (repeat' (first | exact trivial | exact rfl | refine And.intro ?_ ?_))
      · refine view_of [0, 1, 2, 3, 4] rfl ?_ rfl rfl
        (repeat' (first | exact trivial | exact rfl | refine And.intro ?_ ?_))
      · refine view_of [0, 1, 2, 3, 4] rfl ?_ rfl rfl
        (repeat' (first | exact trivial | exact rfl | refine And.intro ?_ ?_))
    (repeat' (first | exact trivial | exact fun h => h | refine And.intro ?_ ?_ | (intro hb; first | (simp at hb; done) | (simp at hb) | skip) | omega | exact rfl | exact Nat.le_refl _ | (show _ + 1 ≤ 4294967296; omega) | (dsimp only; omega) | (show wantB _ _ = true; simp; done) | (show wantB _ _ = true; simp; omega) | (show (_ : Bool) = _; simp_all; done) | (exfalso; omega) | refine aRegion_auto (by decide +kernel) ?_ | fail))
    refine ⟨Nat, fun k => ⟨[(2, .fz (.int .u8) how), (3, .ptr 0 0), (4, .ptr 1 0), (6, .ptr 2 0), (7, .fz .raw .nilIface), (9, .ptr 3 0), (30, .fz (.list int) a.2.2), (31, .fz int a.2.2.length), (32, .fz int k)], [bx, by_, bz, bo, .row int (outL (twoF a b how) a.2.2.length k)]⟩, fun k => k ≤ a.2.2.length ∧ (known how = false → k = 0), fun k => a.2.2.length - k, 0, ⟨Nat.zero_le _, fun _ => rfl⟩, Ent.sub (by rw [← outL_zero]) ⟨rfl, rfl, rfl, rfl, rfl, rfl, rfl, rfl, rfl⟩, ?_⟩
    intro k ⟨hk, hkn⟩
    have hol := outL_len (twoF a b how) a.2.2.length k
    have hka := getD_big hbig (Int.toNat (k : Int))
    have hkb := getD_big hbig' (Int.toNat (k : Int))
    have hkn' : known how = true → (known how = false → k + 1 = 0) := fun h h' => by rw [h] at h'; cases h'
    have nxt : ∀ v : Int, v = twoF a b how k → ([bx, by_, bz, bo, AO.row int (List.set (outL (twoF a b how) a.2.2.length k) (0 + k) v)] : List AO) = [bx, by_, bz, bo, AO.row int (outL (twoF a b how) a.2.2.length (k + 1))] := fun v h => by rw [outL_step _ _ _ _ _ _ h]
    (repeat' (first | exact trivial | exact fun h => h | refine And.intro ?_ ?_ | (intro hb; first | (simp at hb; done) | (simp at hb) | skip) | omega | exact rfl | exact Nat.le_refl _ | (show _ + 1 ≤ 4294967296; omega) | (dsimp only; omega) | (show wantB _ _ = true; simp; done) | (show wantB _ _ = true; simp; omega) | (show (_ : Bool) = _; simp_all; done) | (exfalso; omega) | refine aRegion_auto (by decide +kernel) ?_ | fail))
    · refine ⟨k + 1, ⟨by omega, hkn' (by simp [known, hb])⟩, by show _ - _ < _ - _; omega, Ent.sub (nxt _ (by unfold twoF opTwo; rw [if_pos hb]; rfl)) ?_⟩
      (repeat' (first | exact trivial | exact rfl | refine And.intro ?_ ?_))
    · refine ⟨k + 1, ⟨by omega, hkn' (by simp [known, hb])⟩, by show _ - _ < _ - _; omega, Ent.sub (nxt _ (by unfold twoF opTwo; rw [if_neg (by omega), if_pos hb]; rfl)) ?_⟩
      (repeat' (first | exact trivial | exact rfl | refine And.intro ?_ ?_))
    · refine ⟨k + 1, ⟨by omega, hkn' (by simp [known, hb])⟩, by show _ - _ < _ - _; omega, Ent.sub (nxt _ (by unfold twoF opTwo; rw [if_neg (by omega), if_neg (by omega), if_pos hb]; rfl)) ?_⟩
      (repeat' (first | exact trivial | exact rfl | refine And.intro ?_ ?_))
    · refine ⟨k + 1, ⟨by omega, hkn' (by simp [known, hb])⟩, by show _ - _ < _ - _; omega, Ent.sub (nxt _ (by unfold twoF opTwo; rw [if_neg (by omega), if_neg (by omega), if_neg (by omega)]; rfl)) ?_⟩
      (repeat' (first | exact trivial | exact rfl | refine And.intro ?_ ?_))
    · (apply exEff; focus (repeat' (first | exact ⟨rfl, rfl⟩ | exact trivial | refine And.intro ?_ ?_ | omega | exact Nat.le_refl _ | (show _ + 1 ≤ 4294967296; omega))))
      (repeat' (first | exact trivial | exact fun h => h | refine And.intro ?_ ?_ | (intro hb; first | (simp at hb; done) | (simp at hb) | skip) | omega | exact rfl | exact Nat.le_refl _ | (show _ + 1 ≤ 4294967296; omega) | (dsimp only; omega) | (show wantB _ _ = true; simp; done) | (show wantB _ _ = true; simp; omega) | (show (_ : Bool) = _; simp_all; done) | (exfalso; omega) | refine aRegion_auto (by decide +kernel) ?_ | fail))
      refine ⟨_, _, (REnt.conv [.dat RasT, .keep] _ rfl trivial).trans (REnt.drop ⟨rfl, rfl⟩), ?_⟩
      have hkf : known how = false := by simp [known]; omega
      exact he 3 (by unfold berr; rw [if_neg (by omega), if_pos hkf]) (by decide)
    · have hk2 : k = a.2.2.length := by omega
      subst hk2
      have hpos := Int.mul_pos (a := a.1) (b := a.2.1) (by omega) (by omega)
      have hkt : ¬ known how = false := fun h => by have := hkn h; omega
      refine acall_lend [.dat RasT] _ _ _ rfl ?_ rfl ?_
      · (repeat' (first | exact trivial | refine And.intro ?_ ?_ | (show _ ≤ _; omega) | (show _ ≤ _; simp; done)))
      refine acall_arg (valid_err E (bothR a b how) (by show (outL _ _ _).length ≤ _; omega) _ (fun h => ?_) (fun e h1 h2 => ?_)) ?_
      · refine And.intro rfl ?_
        (repeat' (first | exact trivial | exact fun h => h | refine And.intro ?_ ?_ | (intro hb; first | (simp at hb; done) | (simp at hb) | skip) | omega | exact rfl | exact Nat.le_refl _ | (show _ + 1 ≤ 4294967296; omega) | (dsimp only; omega) | (show wantB _ _ = true; simp; done) | (show wantB _ _ = true; simp; omega) | (show (_ : Bool) = _; simp_all; done) | (exfalso; omega) | refine aRegion_auto (by decide +kernel) ?_ | fail))
        refine ⟨_, _, (REnt.conv [.dat RasT, .keep] _ rfl ?_).trans (REnt.drop ⟨rfl, rfl⟩), ?_⟩
        · (repeat' (first | exact trivial | refine And.intro ?_ ?_ | (show _ ≤ _; omega) | (show _ ≤ _; simp; done)))
        have e1 : List.take a.2.2.length (outL (twoF a b how) a.2.2.length a.2.2.length) = outL (twoF a b how) a.2.2.length a.2.2.length := List.take_of_length_le (by omega)
        exact (congrArg (fun l => K (.tup [.fz RasT (a.1, a.2.1, l), .fz .raw .nilIface]) []) e1).mpr (h0 (by unfold berr; rw [if_neg (by omega), if_neg hkt, if_neg (by omega)]))
      · refine And.intro rfl ?_
        (repeat' (first | exact trivial | exact fun h => h | refine And.intro ?_ ?_ | (intro hb; first | (simp at hb; done) | (simp at hb) | skip) | omega | exact rfl | exact Nat.le_refl _ | (show _ + 1 ≤ 4294967296; omega) | (dsimp only; omega) | (show wantB _ _ = true; simp; done) | (show wantB _ _ = true; simp; omega) | (show (_ : Bool) = _; simp_all; done) | (exfalso; omega) | refine aRegion_auto (by decide +kernel) ?_ | fail))
        (apply exEff; focus (repeat' (first | exact ⟨rfl, rfl⟩ | exact trivial | refine And.intro ?_ ?_ | omega | exact Nat.le_refl _ | (show _ + 1 ≤ 4294967296; omega))))
        (repeat' (first | exact trivial | exact fun h => h | refine And.intro ?_ ?_ | (intro hb; first | (simp at hb; done) | (simp at hb) | skip) | omega | exact rfl | exact Nat.le_refl _ | (show _ + 1 ≤ 4294967296; omega) | (dsimp only; omega) | (show wantB _ _ = true; simp; done) | (show wantB _ _ = true; simp; omega) | (show (_ : Bool) = _; simp_all; done) | (exfalso; omega) | refine aRegion_auto (by decide +kernel) ?_ | fail))
        refine ⟨_, _, (REnt.conv [.dat RasT, .keep] _ rfl trivial).trans (REnt.drop ⟨rfl, rfl⟩), ?_⟩
        exact he 4 (by unfold berr; rw [if_neg (by omega), if_neg hkt, if_pos (by omega)]) (by decide)
      · have e1 : outL (twoF a b how) a.2.2.length a.2.2.length = List.take a.2.2.length (outL (twoF a b how) a.2.2.length a.2.2.length) := (List.take_of_length_le (by omega)).symm
        exact congrArg (fun l => [AV.fz RasT (a.1, a.2.1, l)]) e1
  · (repeat' (first | exact trivial | exact fun h => h | refine And.intro ?_ ?_ | (intro hb; first | (simp at hb; done) | (simp at hb) | skip) | omega | exact rfl | exact Nat.le_refl _ | (show _ + 1 ≤ 4294967296; omega) | (dsimp only; omega) | (show wantB _ _ = true; simp; done) | (show wantB _ _ = true; simp; omega) | (show (_ : Bool) = _; simp_all; done) | (exfalso; omega) | refine aRegion_auto (by decide +kernel) ?_ | fail))
    refine ⟨_, _, (REnt.conv [.dat RasT, .keep] _ rfl trivial).trans (REnt.drop ⟨rfl, rfl⟩), ?_⟩
    exact he e (by unfold berr; rw [if_pos (by omega)]; exact h1) h2
end Go.Proofs.YtidhgdipnfhoeaaDoor
/-
  The first look of each law; small rasters.
-/
namespace Go.Proofs.YtidhgdipnfhoeaaDoor
open Go Go.Ab
set_option maxRecDepth 100000
theorem rasters_any (E : Errs) (K : AV → List AO → Prop) (hK : K (.fz .bool true) []) : ACall Tryd.prog (GE E) 8 [] [] K := by
  refine acall_mk (E := envCut (GE E) 19 0 [2]) (envCutOk _ _ _ _) Tryd.func8 rfl rfl rfl rfl rfl ?_
  (repeat' (first | exact trivial | exact fun h => h | refine And.intro ?_ ?_ | (intro hb; first | (simp at hb; done) | (simp at hb) | skip) | omega | exact rfl | exact Nat.le_refl _ | (show _ + 1 ≤ 4294967296; omega) | (dsimp only; omega) | (show wantB _ _ = true; simp; done) | (show wantB _ _ = true; simp; omega) | (show (_ : Bool) = _; simp_all; done) | (exfalso; omega) | refine aRegion_auto (by decide +kernel) ?_ | fail))
  refine ⟨_, _, Ent.datBox 1 rfl rfl ?_ rfl, ?_⟩
  · (repeat' (first | exact trivial | refine And.intro ?_ ?_ | (show _ ≤ _; omega) | (show _ ≤ _; simp; done)))
  (repeat' (first | exact trivial | exact fun h => h | refine And.intro ?_ ?_ | (intro hb; first | (simp at hb; done) | (simp at hb) | skip) | omega | exact rfl | exact Nat.le_refl _ | (show _ + 1 ≤ 4294967296; omega) | (dsimp only; omega) | (show wantB _ _ = true; simp; done) | (show wantB _ _ = true; simp; omega) | (show (_ : Bool) = _; simp_all; done) | (exfalso; omega) | refine aRegion_auto (by decide +kernel) ?_ | fail))
  refine acall_conv [.dat RasT, .dat RasT, .keep] _ _ _ rfl trivial (acall_frame0 rfl (both_any E (1, 1, [3]) (1, 1, [3]) 43 (by decide) (by decide) _ (fun _ => ?_) (fun e h1 h2 => ?_)))
  · (repeat' (first | exact trivial | exact fun h => h | refine And.intro ?_ ?_ | (intro hb; first | (simp at hb; done) | (simp at hb) | skip) | omega | exact rfl | exact Nat.le_refl _ | (show _ + 1 ≤ 4294967296; omega) | (dsimp only; omega) | (show wantB _ _ = true; simp; done) | (show wantB _ _ = true; simp; omega) | (show (_ : Bool) = _; simp_all; done) | (exfalso; omega) | refine aRegion_auto (by decide +kernel) ?_ | refine ⟨_, _, REnt.drop ⟨rfl, rfl⟩, ?_⟩ | fail))
    refine acall_lend [.dat RasT, .keep, .keep, .dat (.list int)] _ _ _ rfl ?_ rfl ?_
    · (repeat' (first | exact trivial | refine And.intro ?_ ?_ | (show _ ≤ _; omega) | (show _ ≤ _; simp; done)))
    refine acall_arg (is_any _ (1, 1, [6]) 1 1 [6] (by decide) _ ?_) rfl
    refine And.intro rfl ?_
    (repeat' (first | exact trivial | exact fun h => h | refine And.intro ?_ ?_ | (intro hb; first | (simp at hb; done) | (simp at hb) | skip) | omega | exact rfl | exact Nat.le_refl _ | (show _ + 1 ≤ 4294967296; omega) | (dsimp only; omega) | (show wantB _ _ = true; simp; done) | (show wantB _ _ = true; simp; omega) | (show (_ : Bool) = _; simp_all; done) | (exfalso; omega) | refine aRegion_auto (by decide +kernel) ?_ | refine ⟨_, _, REnt.drop ⟨rfl, rfl⟩, ?_⟩ | fail))
    exact hK
  · have : berr (1, 1, [3]) (1, 1, [3]) 43 = 0 := by decide +kernel
    omega
/-- is there a raster of no more than 200 heights? -/
theorem small_any (G : List (Nat × Value)) (a : Ras) (K : AV → List AO → Prop) (hK : K (.fz .bool (decide (a.2.2.length ≤ 200))) []) : ACall Tryd.prog G 9 [.fptr RasT a] [] K := by
  refine acall_mk (E := envAt G 13 0) (envOk _ _ _) Tryd.func9 rfl rfl rfl rfl rfl ?_
  (repeat' (first | exact trivial | exact fun h => h | refine And.intro ?_ ?_ | (intro hb; first | (simp at hb; done) | (simp at hb) | skip) | omega | exact rfl | exact Nat.le_refl _ | (show _ + 1 ≤ 4294967296; omega) | (dsimp only; omega) | (show wantB _ _ = true; simp; done) | (show wantB _ _ = true; simp; omega) | (show (_ : Bool) = _; simp_all; done) | (exfalso; omega) | refine aRegion_auto (by decide +kernel) ?_ | refine ⟨_, _, REnt.drop ⟨rfl, rfl⟩, ?_⟩ | fail))
  exact kb hK (by simp; omega)
theorem small_nil (G : List (Nat × Value)) (K : AV → List AO → Prop) (hK : K (.fz .bool false) []) : ACall Tryd.prog G 9 [.fz .raw (.pointer none)] [] K := by
  refine acall_mk (E := envAt G 13 0) (envOk _ _ _) Tryd.func9 rfl rfl rfl rfl rfl ?_
  (repeat' (first | exact trivial | exact fun h => h | refine And.intro ?_ ?_ | (intro hb; first | (simp at hb; done) | (simp at hb) | skip) | omega | exact rfl | exact Nat.le_refl _ | (show _ + 1 ≤ 4294967296; omega) | (dsimp only; omega) | (show wantB _ _ = true; simp; done) | (show wantB _ _ = true; simp; omega) | (show (_ : Bool) = _; simp_all; done) | (exfalso; omega) | refine aRegion_auto (by decide +kernel) ?_ | refine ⟨_, _, REnt.drop ⟨rfl, rfl⟩, ?_⟩ | fail))
  exact hK
end Go.Proofs.YtidhgdipnfhoeaaDoor
/-
  errors.Is of two errors of errors.New's make.
-/
namespace Go.Proofs.YtidhgdipnfhoeaaDoor.isK
open Go Go.RowKit Go.Extern.Stop Go.Stop Go.Extern
set_option maxRecDepth 100000
theorem typeOf (v : Value) (w : World) : (Extern.ReflectliteType.typeOf #[.iface 102 v]).run Tryd.prog w = .ok (.iface 88 (.agg #[.pointer (some ⟨9, 102, none⟩)])) w := by kernel_rfl
theorem comparable (w : World) : ((Extern.ReflectliteType.method fun t => do Extern.Rtype.noPackHeld "Comparable" t; (fun a => Value.bool a.comparable) <$> typeInfo t) #[.agg #[.pointer (some ⟨9, 102, none⟩)]]).run Tryd.prog w = .ok (.bool true) w := by kernel_rfl
theorem mComparable (v : Value) (w : World) : (Go.method 242 88 v "Comparable").run Tryd.prog w = .ok (80, v) w := by kernel_rfl
theorem comp : (Tryd.prog.info? 102).map (·.comparable) = some true := by kernel_rfl
theorem size : (Tryd.prog.info? 126).map (·.size) = some 1 := by kernel_rfl
theorem noIs (v : Value) (xT : TypeId) (w : World) : (Instr.typeAssert (.iface 102 v) xT 99 true).run Tryd.prog w = .ok (.tuple #[.nilIface, .bool false]) w := run_typeAssert_lacksB Tryd.underlying99 (by kernel_rfl) (by kernel_rfl) v xT w
theorem noUnwrap (v : Value) (xT : TypeId) (w : World) : (Instr.typeAssert (.iface 102 v) xT 95 true).run Tryd.prog w = .ok (.tuple #[.nilIface, .bool false]) w := run_typeAssert_lacksB Tryd.underlying95 (by kernel_rfl) (by kernel_rfl) v xT w
theorem noUnwraps (v : Value) (xT : TypeId) (w : World) : (Instr.typeAssert (.iface 102 v) xT 97 true).run Tryd.prog w = .ok (.tuple #[.nilIface, .bool false]) w := run_typeAssert_lacksB Tryd.underlying97 (by kernel_rfl) (by kernel_rfl) v xT w
/-- errors.Is(x, x), x a pointer to an errors.errorString. -/
theorem is_same (a : Addr) (w : World) :
    Calls Tryd.prog 45 #[.iface 102 (.pointer (some a)), .iface 102 (.pointer (some a))] w fun e w' => e = .returned (.bool true) ∧ w' = w := by
  obtain ⟨i, hi, hcmp⟩ := Option.map_eq_some_iff.1 comp
  obtain ⟨j, hj, hjs⟩ := Option.map_eq_some_iff.1 size
  have h8 := @run_callFunc_extern Tryd.prog 52 _ Extern.ReflectliteType.typeOf Tryd.func52 (by kernel_rfl) (by kernel_rfl) (by kernel_rfl) (by kernel_rfl)
  have h32 := @run_callFunc_extern Tryd.prog 80 _ (Extern.ReflectliteType.method fun t => do Extern.Rtype.noPackHeld "Comparable" t; pure (.bool (← typeInfo t).comparable)) Tryd.func80 (by kernel_rfl) (by kernel_rfl) (by kernel_rfl) (by kernel_rfl)
  have tT := typeOf
  have cT := comparable
  have mR := mComparable
  have heq := run_eql_iface_ptr_same (P := Tryd.prog) w a Tryd.underlying30 Tryd.underlying102 hi hcmp hj
  go_enter Tryd.func45, Tryd.ntmps45
  go_wp2
  refine wp_loop_rounds 1 ?_
  rw [rounds_succ]
  go_wp2
  go_ret
  exact ⟨rfl, rfl⟩
/-- errors.Is(x, y), two different pointers to errors.errorString. -/
theorem is_other (a b : Addr) (ca cb : Array Value) (ta tb : TypeId) (w : World) (hne : a ≠ b) (ha : w.heap[a.block]? = some (.cells ca ta (0, 0))) (hb : w.heap[b.block]? = some (.cells cb tb (0, 0))) :
    Calls Tryd.prog 45 #[.iface 102 (.pointer (some a)), .iface 102 (.pointer (some b))] w fun e w' => e = .returned (.bool false) ∧ w' = w := by
  obtain ⟨i, hi, hcmp⟩ := Option.map_eq_some_iff.1 comp
  obtain ⟨j, hj, hjs⟩ := Option.map_eq_some_iff.1 size
  have h8 := @run_callFunc_extern Tryd.prog 52 _ Extern.ReflectliteType.typeOf Tryd.func52 (by kernel_rfl) (by kernel_rfl) (by kernel_rfl) (by kernel_rfl)
  have h32 := @run_callFunc_extern Tryd.prog 80 _ (Extern.ReflectliteType.method fun t => do Extern.Rtype.noPackHeld "Comparable" t; pure (.bool (← typeInfo t).comparable)) Tryd.func80 (by kernel_rfl) (by kernel_rfl) (by kernel_rfl) (by kernel_rfl)
  have tT := typeOf
  have cT := comparable
  have mR := mComparable
  have nE := noIs
  have uE := noUnwrap
  have vE := noUnwraps
  have heq := run_eql_iface_ptr_other (P := Tryd.prog) w Tryd.underlying30 Tryd.underlying102 hi hcmp hj (by rw [hjs]; decide) hne ha hb
  go_enter Tryd.func45, Tryd.ntmps45
  go_wp2
  refine wp_loop_rounds 1 ?_
  rw [rounds_succ]
  go_wp2
  go_ret
  exact ⟨rfl, rfl⟩
end Go.Proofs.YtidhgdipnfhoeaaDoor.isK
/-
  errors.As of an error of errors.New's make, asked for a *api.Fault: false; only new blocks are laid.
-/
namespace Go.Proofs.YtidhgdipnfhoeaaDoor.asK
open Go Go.RowKit Go.Extern.Stop Go.Stop Go.Extern
set_option maxRecDepth 100000
theorem valueOfPP (t : Addr) (w : World) : (ReflectliteValue.unpack (.iface 67 (.pointer (some t)))).run Tryd.prog w
    = .ok (.agg #[.pointer (some ⟨9, 67, none⟩), .pointer (some ⟨w.heap.size, 0, none⟩), .int .u64 150]) (w.alloc (.cells #[.pointer (some t)] 67)) := by kernel_rfl
theorem typePP (a : Addr) (w : World) : (ReflectliteValue.methodAny (ReflectliteValue.valueError "reflectlite.Value.Type" 0) (fun t _ _ _ => ReflectliteType.toType t) #[.agg #[.pointer (some ⟨9, 67, none⟩), .pointer (some a), .int .u64 150]]).run Tryd.prog w
    = .ok (.iface 88 (.agg #[.pointer (some ⟨9, 67, none⟩)])) w := by kernel_rfl
theorem mKind (h : Value) (w : World) : (Go.method 242 88 (.agg #[h]) "Kind").run Tryd.prog w = .ok (70, h) w := by kernel_rfl
theorem kindPP (w : World) : ((ReflectliteType.abiMethod fun t => (fun a : Nat => Value.int IntKind.u8 (a : Int)) <$> Rtype.kind t) #[.pointer (some ⟨9, 67, none⟩)]).run Tryd.prog w = .ok (.int .u8 22) w := by kernel_rfl
theorem kindP (w : World) : ((ReflectliteType.abiMethod fun t => (fun a : Nat => Value.int IntKind.u8 (a : Int)) <$> Rtype.kind t) #[.pointer (some ⟨9, 65, none⟩)]).run Tryd.prog w = .ok (.int .u8 22) w := by kernel_rfl
theorem rlm (z : Sem Value) (f : TypeId → Addr → Nat → Nat → Sem Value) (v : Value) :
    ReflectliteValue.method z f #[v] = (do match ← ReflectliteValue.parts v with | none => z | some (t, a, fl) => f t a fl (fl % 32)) := rfl
theorem partsPP (a : Addr) (w : World) : (ReflectliteValue.parts (.agg #[.pointer (some ⟨9, 67, none⟩), .pointer (some a), .int .u64 150])).run Tryd.prog w = .ok (some (67, a, 150)) w := by kernel_rfl
theorem isNilPP (a p : Addr) (W : World) (ha : W.cell? a = some (.pointer (some p))) :
    (ReflectliteValue.method (ReflectliteValue.valueError "reflectlite.Value.IsNil" 0) ReflectliteValue.isNil #[.agg #[.pointer (some ⟨9, 67, none⟩), .pointer (some a), .int .u64 150]]).run Tryd.prog W = .ok (.bool false) W := by
  rw [rlm]
  simp only [Sem.run_bind, partsPP, Result.andThen]
  simp [ReflectliteValue.isNil, loadVar, isAgg, underlying, Tryd.underlying67, ha, Result.andThen]
theorem mElem (h : Value) (w : World) : (Go.method 242 88 (.agg #[h]) "Elem").run Tryd.prog w = .ok (81, .agg #[h]) w := by kernel_rfl
theorem mImplements (h : Value) (w : World) : (Go.method 242 88 (.agg #[h]) "Implements").run Tryd.prog w = .ok (82, .agg #[h]) w := by kernel_rfl
theorem mAssignableTo (h : Value) (w : World) : (Go.method 242 88 (.agg #[h]) "AssignableTo").run Tryd.prog w = .ok (79, .agg #[h]) w := by kernel_rfl
theorem elemPP (w : World) : (ReflectliteType.method ReflectliteType.elem #[.agg #[.pointer (some ⟨9, 67, none⟩)]]).run Tryd.prog w = .ok (.iface 88 (.agg #[.pointer (some ⟨9, 65, none⟩)])) w := by kernel_rfl
theorem implementsP (w : World) : (ReflectliteType.relation "Implements" ReflectliteType.implements_ #[.agg #[.pointer (some ⟨9, 65, none⟩)], .iface 88 (.agg #[.pointer (some ⟨9, 30, none⟩)])]).run Tryd.prog w = .ok (.bool true) w := by kernel_rfl
theorem typeOfE (v : Value) (w : World) : (ReflectliteType.typeOf #[.iface 102 v]).run Tryd.prog w = .ok (.iface 88 (.agg #[.pointer (some ⟨9, 102, none⟩)])) w := by kernel_rfl
theorem assignableE (w : World) : (ReflectliteType.relation "AssignableTo" ReflectliteType.assignableTo #[.agg #[.pointer (some ⟨9, 102, none⟩)], .iface 88 (.agg #[.pointer (some ⟨9, 65, none⟩)])]).run Tryd.prog w = .ok (.bool false) w := by kernel_rfl
theorem noAs (v : Value) (xT : TypeId) (w : World) : (Instr.typeAssert (.iface 102 v) xT 92 true).run Tryd.prog w = .ok (.tuple #[.nilIface, .bool false]) w := run_typeAssert_lacksB Tryd.underlying92 (by kernel_rfl) (by kernel_rfl) v xT w
/-- the handle of type error, as errors.errorType holds it -/
def errType : Value := .iface 88 (.agg #[.pointer (some ⟨9, 30, none⟩)])
set_option maxHeartbeats 4000000 in
theorem as_other (e t : Addr) (w : World) (hg : w.cell? ⟨8, 0, none⟩ = some (.iface 88 (.agg #[.pointer (some ⟨9, 30, none⟩)]))) :
    Calls Tryd.prog 44 #[.iface 102 (.pointer (some e)), .iface 67 (.pointer (some t))] w fun ev w' => ev = .returned (.bool false) ∧ w' = ((w.alloc (.cells #[.pointer (some t)] 67)).alloc (.cells #[.pointer (some ⟨9, 67, none⟩), .pointer (some ⟨w.heap.size, 0, none⟩), .int .u64 150] 76)).alloc (.cells #[.pointer (some ⟨9, 67, none⟩), .pointer (some ⟨w.heap.size, 0, none⟩), .int .u64 150] 76) := by
  have h6 := @run_callFunc_extern Tryd.prog 48 _ (fun args => ReflectliteValue.unpack (args.getD 0 (.tuple #[]))) Tryd.func48 (by kernel_rfl) (by kernel_rfl) (by kernel_rfl) (by kernel_rfl)
  have h7 := @run_callFunc_extern Tryd.prog 49 _ (ReflectliteValue.methodAny (ReflectliteValue.valueError "reflectlite.Value.Type" 0) (fun t _ _ _ => ReflectliteType.toType t)) Tryd.func49 (by kernel_rfl) (by kernel_rfl) (by kernel_rfl) (by kernel_rfl)
  have h8 := @run_callFunc_extern Tryd.prog 50 _ (ReflectliteValue.method (ReflectliteValue.valueError "reflectlite.Value.IsNil" 0) ReflectliteValue.isNil) Tryd.func50 (by kernel_rfl) (by kernel_rfl) (by kernel_rfl) (by kernel_rfl)
  have h27 := @run_callFunc_extern Tryd.prog 70 _ (ReflectliteType.abiMethod fun t => do pure (.int .u8 (← Rtype.kind t))) Tryd.func70 (by kernel_rfl) (by kernel_rfl) (by kernel_rfl) (by kernel_rfl)
  have h37 := @run_callFunc_extern Tryd.prog 81 _ (ReflectliteType.method ReflectliteType.elem) Tryd.func81 (by kernel_rfl) (by kernel_rfl) (by kernel_rfl) (by kernel_rfl)
  have h38 := @run_callFunc_extern Tryd.prog 82 _ (ReflectliteType.relation "Implements" ReflectliteType.implements_) Tryd.func82 (by kernel_rfl) (by kernel_rfl) (by kernel_rfl) (by kernel_rfl)
  have h10 := @run_callFunc_extern Tryd.prog 52 _ ReflectliteType.typeOf Tryd.func52 (by kernel_rfl) (by kernel_rfl) (by kernel_rfl) (by kernel_rfl)
  have h35 := @run_callFunc_extern Tryd.prog 79 _ (ReflectliteType.relation "AssignableTo" ReflectliteType.assignableTo) Tryd.func79 (by kernel_rfl) (by kernel_rfl) (by kernel_rfl) (by kernel_rfl)
  have tO := typeOfE
  have mA := mAssignableTo
  have aE := assignableE
  have f6 := valueOfPP
  have f7 := typePP
  have mK := mKind
  have mE := mElem
  have mI := mImplements
  have k27 := kindPP
  have k25 := kindP
  have e27 := elemPP
  have i25 := implementsP
  have nA := noAs
  have uE := isK.noUnwrap
  have vE := isK.noUnwraps
  have n8 := isNilPP ⟨w.heap.size, 0, none⟩ t ((w.alloc (.cells #[.pointer (some t)] 67)).alloc (.cells #[.pointer (some ⟨9, 67, none⟩), .pointer (some ⟨w.heap.size, 0, none⟩), .int .u64 150] 76)) (by simp)
  have hlt : 8 < w.heap.size := by
    rcases Nat.lt_or_ge 8 w.heap.size with h' | h'
    · exact h'
    · simp [World.cell?, Array.getElem?_eq_none h'] at hg
  have hg2 : ((w.alloc (.cells #[.pointer (some t)] 67)).alloc (.cells #[.pointer (some ⟨9, 67, none⟩), .pointer (some ⟨w.heap.size, 0, none⟩), .int .u64 150] 76)).cell? ⟨8, 0, none⟩ = some (.iface 88 (.agg #[.pointer (some ⟨9, 30, none⟩)])) := by
    rw [World.cell?_alloc_lt _ _ ⟨8, 0, none⟩ (by simp; omega), World.cell?_alloc_lt _ _ ⟨8, 0, none⟩ hlt]; exact hg
  go_enter Tryd.func44, Tryd.ntmps44
  go_wp2
  refine wp_loop_rounds 1 ?_
  rw [rounds_succ]
  go_wp2
  go_ret
  exact ⟨rfl, rfl⟩
end Go.Proofs.YtidhgdipnfhoeaaDoor.asK
/-
  Contracts of functions that only lay new blocks, out of walks by hand.
-/
namespace Go.Ab
open Go Go.RowKit
theorem below_ext {c : Cx} (H : HR c) {w' : World} (hb : Below c.w.heap.size c.w w') : Ext c { c with w := w' } ∧ HR { c with w := w' } := by
  have hI : ∀ b, c.I b → b < c.w.heap.size → ({ c with w := w' } : Cx).I b ∧ w'.heap[b]? = c.w.heap[b]? := fun b h hl => ⟨h, hb.block b hl⟩
  have E : Ext c { c with w := w' } := by
    refine ⟨⟨hI, fun t ht => ?_, Nat.le_refl _⟩, rfl, rfl, fun b h => hb.block b (H.old b h), ⟨hb.os, hb.tape, hb.output⟩⟩
    have h0 := TokLe.refl (c := c) ht
    unfold TokLe at h0 ⊢
    show match c.A[t]? with | some (.row e _) => _ | some (.box _) => _ | some .dead => True | none => False
    cases hA : c.A[t]? with
    | none => rw [hA] at h0; exact h0
    | some o =>
      rw [hA] at h0
      cases o with
      | dead => trivial
      | row e xs =>
        simp only at h0 ⊢
        refine ⟨⟨xs, rfl⟩, trivial, fun b cs et h1 h2 => ⟨cs, ?_, rfl⟩⟩
        show w'.heap[b]? = _
        rw [hb.block b (some_lt h2)]; exact h2
      | box vs => exact .inl ⟨⟨vs, rfl⟩, rfl⟩
  refine ⟨E, ⟨H.far, H.inj, fun t o h => ?_, fun b h => Nat.lt_of_lt_of_le (H.old b h) hb.size, fun g v h => (H.glo g v h).mono E.le.I⟩⟩
  refine objOk_ext E (H.obj t o h) fun hl b hr => hb.block b ?_
  exact H.lt ⟨o, h, hl⟩ hr
theorem acall_below {P : Program} {G : List (Nat × Value)} {f : FuncId} {args : List AV} {A : List AO} {K : AV → List AO → Prop} {r : AV} (hb : hasBody P f)
    (h : ∀ c, HR c → c.A = A → c.G = G → ∀ vs, RelL c args vs → Calls P f vs.toArray c.w fun e w' => ∃ v, e = .returned v ∧ Below c.w.heap.size c.w w' ∧ ∀ c', Ext c c' → c'.w = w' → Rel c' r v) (hK : K r A) : ACall P G f args A K := by
  refine ⟨hb, fun c H hA hG vs hv => (h c H hA hG vs hv).mono fun e w' ⟨v, h1, h2, h3⟩ => ?_⟩
  obtain ⟨k1, k2⟩ := below_ext H h2
  exact ⟨v, _, r, h1, rfl, k1, k2, h3 _ k1 rfl, by rw [show ({ c with w := w' } : Cx).A = A from hA]; exact hK⟩
end Go.Ab
/-
  errors.Is, errors.As, plain.Code of plain errors, as contracts.
-/
namespace Go.Proofs.YtidhgdipnfhoeaaDoor
open Go Go.Ab Go.RowKit
set_option maxRecDepth 100000
/-- all errors, and the handle that errors.As looks at -/
def EL (E : Errs) : List Addr := [E.text, E.bound, E.shape, E.range, E.name, E.none, E.order, E.file]
abbrev G8 (E : Errs) : List (Nat × Value) := [(0, errV E.shape), (1, errV E.range), (2, errV E.bound), (4, errV E.text), (5, errV E.name), (6, errV E.none), (7, errV E.order), (3, errV E.file), (8, asK.errType)]
theorem gk_sub {E : Errs} (g : Nat) (v : Value) (h : gk (GE E) g = some v) : gk (G8 E) g = some v := by
  unfold GE gk at h
  unfold G8 gk
  split at h
  · rename_i e; rw [if_pos e]; exact h
  rename_i e; rw [if_neg e]
  unfold gk at h ⊢
  split at h
  · rename_i e; rw [if_pos e]; exact h
  rename_i e; rw [if_neg e]
  unfold gk at h ⊢
  split at h
  · rename_i e; rw [if_pos e]; exact h
  · cases h
theorem up8 {E : Errs} {f : FuncId} {args : List AV} {A : List AO} {K : AV → List AO → Prop} (h : ACall Tryd.prog (GE E) f args A K) : ACall Tryd.prog (G8 E) f args A K := acall_more h gk_sub
/-- the errors that a law tells apart; 0: nil -/
def er (E : Errs) (e : Nat) : Value := match e with
  | 0 => .nilIface
  | 1 => errV E.text
  | 2 => errV E.bound
  | 3 => errV E.shape
  | 4 => errV E.range
  | 5 => errV E.name
  | 6 => errV E.none
  | 7 => errV E.order
  | _ => errV E.file
def ea (E : Errs) (e : Nat) : Addr := match e with
  | 0 => E.text
  | 1 => E.text
  | 2 => E.bound
  | 3 => E.shape
  | 4 => E.range
  | 5 => E.name
  | 6 => E.none
  | 7 => E.order
  | _ => E.file
theorem er_ea (E : Errs) {e : Nat} (h : 0 < e) : er E e = errV (ea E e) := by
  unfold er ea; split <;> first | omega | rfl
theorem er_in (E : Errs) {e : Nat} (h : 0 < e) (h8 : e ≤ 8) : ∃ g, gk (G8 E) g = some (errV (ea E e)) := by
  obtain rfl | rfl | rfl | rfl | rfl | rfl | rfl | rfl : e = 1 ∨ e = 2 ∨ e = 3 ∨ e = 4 ∨ e = 5 ∨ e = 6 ∨ e = 7 ∨ e = 8 := by omega
  · exact ⟨4, rfl⟩
  · exact ⟨2, rfl⟩
  · exact ⟨0, rfl⟩
  · exact ⟨1, rfl⟩
  · exact ⟨5, rfl⟩
  · exact ⟨6, rfl⟩
  · exact ⟨7, rfl⟩
  · exact ⟨3, rfl⟩
theorem ea_at (E : Errs) {e : Nat} (h : 0 < e) (h8 : e ≤ 8) : (EL E)[e - 1]? = some (ea E e) := by
  obtain rfl | rfl | rfl | rfl | rfl | rfl | rfl | rfl : e = 1 ∨ e = 2 ∨ e = 3 ∨ e = 4 ∨ e = 5 ∨ e = 6 ∨ e = 7 ∨ e = 8 := by omega
  all_goals rfl
theorem ea_ne {E : Errs} (hE : (EL E).Nodup) {e d : Nat} (h : 0 < e) (h8 : e ≤ 8) (k : 0 < d) (k8 : d ≤ 8) (hne : e ≠ d) : ea E e ≠ ea E d := by
  intro he
  have h1 := ea_at E h h8
  have h2 := ea_at E k k8
  rw [he] at h1
  have h3 : e - 1 = d - 1 := by
    have hl : e - 1 < (EL E).length := by show e - 1 < 8; omega
    exact (List.getElem?_inj hl hE).1 (h1.trans h2.symm)
  omega
theorem errIs_any {E : Errs} (hE : (EL E).Nodup) {e d : Nat} (h : 0 < e) (h8 : e ≤ 8) (k : 0 < d) (k8 : d ≤ 8) (A : List AO) (K : AV → List AO → Prop) (hK : K (.fz .bool (decide (e = d))) A) :
    ACall Tryd.prog (G8 E) 45 [.fz .raw (errV (ea E e)), .fz .raw (errV (ea E d))] A K := by
  refine acall_below ⟨_, Tryd.func45, rfl, rfl⟩ (fun c H hA hG vs hv => ?_) hK
  obtain ⟨v, r, rfl, h1, v2, r2, rfl, h2, h3⟩ := hv
  unfold RelL at h3
  subst h3
  rw [(rel_raw rfl).1 h1, (rel_raw rfl).1 h2]
  by_cases he : e = d
  · subst he
    refine (isK.is_same _ _).mono fun x w' ⟨e1, e2⟩ => ⟨_, e1, by rw [e2]; exact Below.refl _ _, fun c' _ _ => ?_⟩
    rw [rel_bool]; simp
  · obtain ⟨g1, q1⟩ := er_in E h h8
    obtain ⟨g2, q2⟩ := er_in E k k8
    obtain ⟨_, cs1, t1, j1⟩ := (H.glo g1 _ (by rw [hG]; exact q1)).tgt _ _ rfl
    obtain ⟨_, cs2, t2, j2⟩ := (H.glo g2 _ (by rw [hG]; exact q2)).tgt _ _ rfl
    refine (isK.is_other _ _ _ _ _ _ _ (ea_ne hE h h8 k k8 he) j1 j2).mono fun x w' ⟨e1, e2⟩ => ⟨_, e1, by rw [e2]; exact Below.refl _ _, fun c' _ _ => ?_⟩
    rw [rel_bool]; simp [he]
theorem errAs_any {E : Errs} (a : Addr) (vs : List AV) (K : AV → List AO → Prop) (hK : K (.fz .bool false) [.box vs]) :
    ACall Tryd.prog (G8 E) 44 [.fz .raw (errV a), .ifc 67 (.ptr 0 0)] [.box vs] K := by
  refine acall_below ⟨_, Tryd.func44, rfl, rfl⟩ (fun c H hA hG vs hv => ?_) hK
  obtain ⟨v, r, rfl, h1, v2, r2, rfl, h2, h3⟩ := hv
  unfold RelL at h3
  subst h3
  rw [(rel_raw rfl).1 h1]
  obtain ⟨u, rfl, h2⟩ := h2
  unfold Rel at h2
  rw [hA] at h2
  obtain ⟨b, _, rfl⟩ := h2
  have hg := (H.glo 8 asK.errType (by rw [hG]; rfl)).cell
  refine (asK.as_other _ _ _ hg).mono fun x w' ⟨e1, e2⟩ => ⟨_, e1, ?_, fun c' _ _ => rel_bool.2 rfl⟩
  subst e2
  exact (((Below.refl _ _).alloc (Nat.le_refl _) _).alloc (by simp) _).alloc (by simp; omega) _
end Go.Proofs.YtidhgdipnfhoeaaDoor
/-
  plain.Code, coded: what number an error has.
-/
namespace Go.Proofs.YtidhgdipnfhoeaaDoor
open Go Go.Ab Go.RowKit
set_option maxRecDepth 100000
theorem code_nil (E : Errs) (K : AV → List AO → Prop) (hK : K (.tup [.fz int 0, .fz int (-1)]) []) : ACall Tryd.prog (G8 E) 34 [.fz .raw .nilIface] [] K := by
  refine acall_mk (E := envAt (G8 E) 39 0) (envOk _ _ _) Tryd.func34 rfl rfl rfl rfl rfl ?_
  (repeat' (first | exact trivial | exact fun h => h | refine And.intro ?_ ?_ | (intro hb; first | (simp at hb; done) | (simp at hb) | skip) | omega | exact rfl | exact Nat.le_refl _ | (show _ + 1 ≤ 4294967296; omega) | (dsimp only; omega) | (show wantB _ _ = true; simp; done) | (show wantB _ _ = true; simp; omega) | (show (_ : Bool) = _; simp_all; done) | (exfalso; omega) | refine aRegion_auto (by decide +kernel) ?_ | refine ⟨_, _, REnt.drop ⟨rfl, rfl⟩, ?_⟩ | fail))
  exact hK
abbrev errs (E : Errs) : List Value := [errV E.text, errV E.bound, errV E.shape, errV E.range, errV E.name, errV E.none, errV E.order, errV E.file]
theorem errs_at (E : Errs) {k : Nat} (h : k < 8) : List.getD (errs E) k (Ty.dft .raw) = errV (ea E (k + 1)) := by
  obtain rfl | rfl | rfl | rfl | rfl | rfl | rfl | rfl : k = 0 ∨ k = 1 ∨ k = 2 ∨ k = 3 ∨ k = 4 ∨ k = 5 ∨ k = 6 ∨ k = 7 := by omega
  all_goals rfl
set_option maxHeartbeats 4000000 in
theorem code_any {E : Errs} (hE : (EL E).Nodup) {e : Nat} (h : 0 < e) (h8 : e ≤ 8) (K : AV → List AO → Prop) (hK : K (.tup [.fz int e, .fz int (-1)]) []) :
    ACall Tryd.prog (G8 E) 34 [.fz .raw (errV (ea E e))] [] K := by
  refine acall_mk (E := envAt (G8 E) 39 0) (envOk _ _ _) Tryd.func34 rfl rfl rfl rfl rfl ?_
  (repeat' (first | exact trivial | exact fun h => h | refine And.intro ?_ ?_ | (intro hb; first | (simp at hb; done) | (simp at hb) | skip) | omega | exact rfl | exact Nat.le_refl _ | (show _ + 1 ≤ 4294967296; omega) | (dsimp only; omega) | (show wantB _ _ = true; simp; done) | (show wantB _ _ = true; simp; omega) | (show (_ : Bool) = _; simp_all; done) | (exfalso; omega) | refine aRegion_auto (by decide +kernel) ?_ | refine ⟨_, _, REnt.drop ⟨rfl, rfl⟩, ?_⟩ | fail))
  refine acall_frame [0] [.box [.fz .raw (.pointer none)]] [.fz .raw (errV (ea E e)), .ifc 67 (.ptr 0 0)] rfl ⟨⟨rfl, rfl⟩, trivial⟩ ⟨rfl, rfl⟩ rfl (errAs_any (ea E e) _ _ ?_)
  (repeat' (first | exact trivial | exact fun h => h | refine And.intro ?_ ?_ | (intro hb; first | (simp at hb; done) | (simp at hb) | skip) | omega | exact rfl | exact Nat.le_refl _ | (show _ + 1 ≤ 4294967296; omega) | (dsimp only; omega) | (show wantB _ _ = true; simp; done) | (show wantB _ _ = true; simp; omega) | (show (_ : Bool) = _; simp_all; done) | (exfalso; omega) | refine aRegion_auto (by decide +kernel) ?_ | refine ⟨_, _, REnt.drop ⟨rfl, rfl⟩, ?_⟩ | fail))
  refine ⟨Nat, fun k => ⟨[(0, .fz .raw (errV (ea E e))), (3, .fz int (-1)), (24, .ref 1 0 8), (25, .fz int 8), (26, .fz int k)], [.box [.fz .raw (.pointer none)], .row .raw (errs E)]⟩, fun k => k < e, fun k => e - k, 0, h, Ent.sub rfl ?_, ?_⟩
  · (repeat' (first | exact trivial | exact rfl | refine And.intro ?_ ?_))
  intro k hk
  have hk8 : 0 + Int.toNat (k : Int) < (errs E).length := by show 0 + Int.toNat (k : Int) < 8; omega
  (repeat' (first | exact trivial | exact fun h => h | refine And.intro ?_ ?_ | (intro hb; first | (simp at hb; done) | (simp at hb) | skip) | omega | exact rfl | exact Nat.le_refl _ | (show _ + 1 ≤ 4294967296; omega) | (dsimp only; omega) | (show wantB _ _ = true; simp; done) | (show wantB _ _ = true; simp; omega) | (show (_ : Bool) = _; simp_all; done) | (exfalso; omega) | refine aRegion_auto (by decide +kernel) ?_ | refine ⟨_, _, REnt.drop ⟨rfl, rfl⟩, ?_⟩ | fail))
  · refine acall_frame0 rfl (acall_arg (errIs_any hE h h8 (Nat.succ_pos k) (by omega) _ _ ?_) (congrArg (fun v => [AV.fz .raw (errV (ea E e)), AV.fz .raw v]) ((errs_at E (k := k) (by omega)).symm.trans (congrArg (fun i => List.getD (errs E) i (Ty.dft .raw)) (show k = 0 + Int.toNat (k : Int) by omega)))))
    (repeat' (first | exact trivial | exact fun h => h | refine And.intro ?_ ?_ | (intro hb; first | (simp at hb; done) | (simp at hb) | skip) | omega | exact rfl | exact Nat.le_refl _ | (show _ + 1 ≤ 4294967296; omega) | (dsimp only; omega) | (show wantB _ _ = true; simp; done) | (show wantB _ _ = true; simp; omega) | (show (_ : Bool) = _; simp_all; done) | (exfalso; omega) | refine aRegion_auto (by decide +kernel) ?_ | refine ⟨_, _, REnt.drop ⟨rfl, rfl⟩, ?_⟩ | fail))
    · have hb : e = k + 1 := by simpa using hb
      subst hb
      exact hK
    · have hb : ¬ e = k + 1 := by simpa using hb
      refine ⟨k + 1, by omega, by show _ - _ < _ - _; omega, Ent.sub rfl ?_⟩
      (repeat' (first | exact trivial | exact rfl | refine And.intro ?_ ?_))
theorem coded_mercatorlaw3 {E : Errs} (hE : (EL E).Nodup) {e : Nat} (h8 : e ≤ 8) (n : Int) (K : AV → List AO → Prop) (hK : K (.fz .bool (decide ((e : Int) = n))) []) : ACall Tryd.prog (G8 E) 16 [.fz .raw (er E e), .fz int n] [] K := by
  refine acall_mk (E := envAt (G8 E) 15 0) (envOk _ _ _) Tryd.func16 rfl rfl rfl rfl rfl ?_
  (repeat' (first | exact trivial | exact fun h => h | refine And.intro ?_ ?_ | (intro hb; first | (simp at hb; done) | (simp at hb) | skip) | omega | exact rfl | exact Nat.le_refl _ | (show _ + 1 ≤ 4294967296; omega) | (dsimp only; omega) | (show wantB _ _ = true; simp; done) | (show wantB _ _ = true; simp; omega) | (show (_ : Bool) = _; simp_all; done) | (exfalso; omega) | refine aRegion_auto (by decide +kernel) ?_ | refine ⟨_, _, REnt.drop ⟨rfl, rfl⟩, ?_⟩ | fail))
  by_cases h : e = 0
  · subst h
    refine acall_frame0 rfl (code_nil E _ ?_)
    (repeat' (first | exact trivial | exact fun h => h | refine And.intro ?_ ?_ | (intro hb; first | (simp at hb; done) | (simp at hb) | skip) | omega | exact rfl | exact Nat.le_refl _ | (show _ + 1 ≤ 4294967296; omega) | (dsimp only; omega) | (show wantB _ _ = true; simp; done) | (show wantB _ _ = true; simp; omega) | (show (_ : Bool) = _; simp_all; done) | (exfalso; omega) | refine aRegion_auto (by decide +kernel) ?_ | refine ⟨_, _, REnt.drop ⟨rfl, rfl⟩, ?_⟩ | fail))
    exact hK
  · refine acall_frame0 rfl (acall_arg (code_any hE (Nat.pos_of_ne_zero h) h8 _ ?_) (congrArg (fun v => [AV.fz .raw v]) (er_ea E (Nat.pos_of_ne_zero h)).symm))
    (repeat' (first | exact trivial | exact fun h => h | refine And.intro ?_ ?_ | (intro hb; first | (simp at hb; done) | (simp at hb) | skip) | omega | exact rfl | exact Nat.le_refl _ | (show _ + 1 ≤ 4294967296; omega) | (dsimp only; omega) | (show wantB _ _ = true; simp; done) | (show wantB _ _ = true; simp; omega) | (show (_ : Bool) = _; simp_all; done) | (exfalso; omega) | refine aRegion_auto (by decide +kernel) ?_ | refine ⟨_, _, REnt.drop ⟨rfl, rfl⟩, ?_⟩ | fail))
    exact hK
end Go.Proofs.YtidhgdipnfhoeaaDoor
/-
  FieldBoth: what it calls, each answer in one piece.
-/
namespace Go.Proofs.YtidhgdipnfhoeaaDoor
open Go Go.Ab
set_option maxRecDepth 100000
theorem errA_er (E : Errs) {e : Nat} (h : 2 ≤ e) (h4 : e ≤ 4) : errV (errA E e) = er E e := by
  obtain rfl | rfl | rfl : e = 2 ∨ e = 3 ∨ e = 4 := by omega
  all_goals rfl
theorem rerr_ge {a : Ras} (h : 0 < rerr a) : 2 ≤ rerr a := by
  unfold rerr at *
  split
  · omega
  rename_i h1; rw [if_neg h1] at h
  split
  · omega
  rename_i h2; rw [if_neg h2] at h
  split
  · omega
  · rename_i h3; rw [if_neg h3] at h; omega
theorem perr_ge {a b : Ras} : (perr a b = 0 ∨ 2 ≤ perr a b) ∧ perr a b ≤ 4 := by
  have h1 := rerr_in a
  have h2 := rerr_in b
  unfold perr
  split
  · have := rerr_ge (a := a) (by assumption); omega
  split
  · have := rerr_ge (a := b) (by assumption); omega
  split <;> omega
theorem berr_ge {a b : Ras} {how : Int} : (berr a b how = 0 ∨ 2 ≤ berr a b how) ∧ berr a b how ≤ 4 := by
  have h1 := perr_ge (a := a) (b := b)
  unfold berr
  split
  · omega
  split
  · omega
  split <;> omega
theorem valid_one (E : Errs) (a : Ras) (hl : a.2.2.length ≤ 1000000000000) (K : AV → List AO → Prop) (hK : K (.fz .raw (er E (rerr a))) []) : ACall Tryd.prog (G8 E) 17 [.fz RasT a] [] K := by
  refine up8 (valid_any E a hl K (fun h => ?_) (fun h => ?_) (fun h => ?_) (fun h => ?_))
  all_goals rw [h] at hK; exact hK
def bothQ (a b : Ras) (how : Int) : Ras := if berr a b how = 0 then bothR a b how else (0, 0, [])
theorem both_one (E : Errs) (a b : Ras) (how : Int) (ha : a.2.2.length ≤ 1000000000000) (hb : b.2.2.length ≤ 1000000000000) (K : AV → List AO → Prop) (hK : K (RE (bothQ a b how) (er E (berr a b how))) []) :
    ACall Tryd.prog (G8 E) 14 [.fz RasT a, .fz RasT b, .fz (.int .u8) how] [] K := by
  refine up8 (both_any E a b how ha hb K (fun h => ?_) (fun e h h0 => ?_))
  · unfold bothQ at hK; rw [if_pos h, h] at hK; exact hK
  · have := berr_ge (a := a) (b := b) (how := how)
    unfold bothQ at hK; rw [if_neg (by omega), h] at hK; rw [errA_er E (by omega) (by omega)]; exact hK
theorem rastersError_any (G : List (Nat × Value)) (a b : Ras) (ha : a.2.2.length ≤ 1000000000000) (hlb : b.2.2.length ≤ 1000000000000) (K : AV → List AO → Prop) (hK : K (.fz int (perr a b)) []) :
    ACall Tryd.prog G 15 [.fptr RasT a, .fptr RasT b] [] K := by
  refine acall_mk (E := envAt G 37 0) (envOk _ _ _) Tryd.func15 rfl rfl rfl rfl rfl ?_
  (repeat' (first | exact trivial | exact fun h => h | refine And.intro ?_ ?_ | (intro hb; first | (simp at hb; done) | (simp at hb) | skip) | omega | exact rfl | exact Nat.le_refl _ | (show _ + 1 ≤ 4294967296; omega) | (dsimp only; omega) | (show wantB _ _ = true; simp; done) | (show wantB _ _ = true; simp; omega) | (show (_ : Bool) = _; simp_all; done) | (exfalso; omega) | refine aRegion_auto (by decide +kernel) ?_ | fail))
  refine acall_frame0 rfl (rasterError_any _ a ha _ ?_)
  (repeat' (first | exact trivial | exact fun h => h | refine And.intro ?_ ?_ | (intro hb; first | (simp at hb; done) | (simp at hb) | skip) | omega | exact rfl | exact Nat.le_refl _ | (show _ + 1 ≤ 4294967296; omega) | (dsimp only; omega) | (show wantB _ _ = true; simp; done) | (show wantB _ _ = true; simp; omega) | (show (_ : Bool) = _; simp_all; done) | (exfalso; omega) | refine aRegion_auto (by decide +kernel) ?_ | refine ⟨_, _, REnt.drop ⟨rfl, rfl⟩, ?_⟩ | fail))
  · refine acall_frame0 rfl (rasterError_any _ b hlb _ ?_)
    (repeat' (first | exact trivial | exact fun h => h | refine And.intro ?_ ?_ | (intro hb; first | (simp at hb; done) | (simp at hb) | skip) | omega | exact rfl | exact Nat.le_refl _ | (show _ + 1 ≤ 4294967296; omega) | (dsimp only; omega) | (show wantB _ _ = true; simp; done) | (show wantB _ _ = true; simp; omega) | (show (_ : Bool) = _; simp_all; done) | (exfalso; omega) | refine aRegion_auto (by decide +kernel) ?_ | refine ⟨_, _, REnt.drop ⟨rfl, rfl⟩, ?_⟩ | fail))
    · exact kz hK (by unfold perr; rw [if_neg (by omega), if_neg (by omega), if_pos hb.2]; rfl)
    · exact kz hK (by
        unfold perr; rw [if_neg (by omega)]
        split
        · rfl
        · rw [if_neg (by intro h; have := hb (by omega); omega)]; omega)
  · exact kz hK (by unfold perr; rw [if_pos (by omega)])
theorem nothing_any (G : List (Nat × Value)) (a : Ras) (K : AV → List AO → Prop) (hK : K (.fz .bool (decide (a = (0, 0, [])))) []) : ACall Tryd.prog G 18 [.fz RasT a] [] K := by
  refine acall_mk (E := envAt G 17 0) (envOk _ _ _) Tryd.func18 rfl rfl rfl rfl rfl ?_
  (repeat' (first | exact trivial | exact fun h => h | refine And.intro ?_ ?_ | (intro hb; first | (simp at hb; done) | (simp at hb) | skip) | omega | exact rfl | exact Nat.le_refl _ | (show _ + 1 ≤ 4294967296; omega) | (dsimp only; omega) | (show wantB _ _ = true; simp; done) | (show wantB _ _ = true; simp; omega) | (show (_ : Bool) = _; simp_all; done) | (exfalso; omega) | refine aRegion_auto (by decide +kernel) ?_ | refine ⟨_, _, REnt.drop ⟨rfl, rfl⟩, ?_⟩ | fail))
  exact kb hK (by
    obtain ⟨x, y, l⟩ := a
    cases l <;> simp [Prod.ext_iff] <;> (by_cases h1 : x = 0 <;> by_cases h2 : y = 0 <;> simp [h1, h2]) <;> omega)
theorem ofTwo_any (G : List (Nat × Value)) (x y how : Int) (hx : -1048576 ≤ x ∧ x ≤ 1048576) (hy : -1048576 ≤ y ∧ y ≤ 1048576) (K : AV → List AO → Prop) (hK : K (.fz int (opTwo how x y)) []) :
    ACall Tryd.prog G 19 [.fz int x, .fz int y, .fz (.int .u8) how] [] K := by
  refine acall_mk (E := envAt G 30 0) (envOk _ _ _) Tryd.func19 rfl rfl rfl rfl rfl ?_
  (repeat' (first | exact trivial | exact fun h => h | refine And.intro ?_ ?_ | (intro hb; first | (simp at hb; done) | (simp at hb) | skip) | omega | exact rfl | exact Nat.le_refl _ | (show _ + 1 ≤ 4294967296; omega) | (dsimp only; omega) | (show wantB _ _ = true; simp; done) | (show wantB _ _ = true; simp; omega) | (show (_ : Bool) = _; simp_all; done) | (exfalso; omega) | refine aRegion_auto (by decide +kernel) ?_ | refine ⟨_, _, REnt.drop ⟨rfl, rfl⟩, ?_⟩ | fail))
  · exact kz hK (by unfold opTwo; rw [if_pos (by assumption)])
  · exact kz hK (by unfold opTwo; rw [if_neg (by omega), if_pos (by assumption)])
  · exact kz hK (by unfold opTwo; rw [if_neg (by omega), if_neg (by omega), if_pos (by assumption)]; omega)
  · exact kz hK (by unfold opTwo; rw [if_neg (by omega), if_neg (by omega), if_pos (by assumption)]; omega)
  · exact kz hK (by unfold opTwo; rw [if_neg (by omega), if_neg (by omega), if_neg (by omega)]; omega)
  · exact kz hK (by unfold opTwo; rw [if_neg (by omega), if_neg (by omega), if_neg (by omega)]; omega)
end Go.Proofs.YtidhgdipnfhoeaaDoor
