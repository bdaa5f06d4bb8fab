/-
  A box's nil slice as a slice of one's own.
-/
import Derived.Test.YtidhgdipnfhoeaaDoorAe1
namespace Go.Ab
open Go
def Cx.rebox (c : Cx) (tok : Nat) (vs : List AV) : Cx := { c with A := c.A.set tok (.box vs) }
theorem rebox_sound {c : Cx} (H : HR c) {tok : Nat} {vs vs' : List AV} (h0 : c.A[tok]? = some (.box vs)) (hr : ∀ b cs et, c.ρ tok = some b → c.w.heap[b]? = some (.cells (List.toArray cs) et (0, 0)) → RelL c vs cs → RelL c vs' cs) : Ext c (c.rebox tok vs') ∧ HR (c.rebox tok vs') := by
  have hlt := get_lt h0
  have new : (c.rebox tok vs').A[tok]? = some (.box vs') := by show (c.A.set tok _)[tok]? = _; rw [List.getElem?_set_self hlt]
  have old : ∀ t, t ≠ tok → (c.rebox tok vs').A[t]? = c.A[t]? := fun t h => by show (c.A.set tok _)[t]? = _; rw [List.getElem?_set_ne (by omega)]
  have hl : ∀ t, (c.rebox tok vs').live t → c.live t := by
    intro t ⟨o, h1, h2⟩
    by_cases h : t = tok
    · subst h; exact ⟨_, h0, rfl⟩
    · rw [old t h] at h1; exact ⟨o, h1, h2⟩
  have hI : ∀ b, c.I b → (c.rebox tok vs').I b := fun b h => ⟨h.1, fun t ht => h.2 t (hl t ht)⟩
  have E : Ext c (c.rebox tok vs') := by
    refine ⟨⟨fun b h _ => ⟨hI b h, rfl⟩, fun t ht => ?_, by show _ ≤ (c.A.set tok _).length; simp⟩, rfl, rfl, fun b _ => rfl, ⟨rfl, rfl, rfl⟩⟩
    by_cases h : t = tok
    · subst h; unfold TokLe; rw [new]; exact .inl ⟨⟨_, h0⟩, rfl⟩
    · have := TokLe.refl ht
      unfold TokLe at *
      rw [old t h]; exact this
  refine ⟨E, ⟨fun t b ht hb => H.far t b (hl t ht) hb, fun t u b ht hu h1 h2 => H.inj t u b (hl t ht) (hl u hu) h1 h2, fun t o h => ?_, H.old, fun g v h => ?_⟩⟩
  · by_cases ht : t = tok
    · subst ht
      rw [new] at h; cases h
      obtain ⟨b, cs, et, h1, h2, h3⟩ := H.obj t _ h0
      exact ⟨b, cs, et, h1, h2, (hr b cs et h1 h2 h3).ext E⟩
    · rw [old t ht] at h
      exact objOk_ext E (H.obj t o h) (fun _ _ _ => rfl)
  · exact (H.glo g v h).mono fun b hb _ => ⟨hI b hb, rfl⟩
theorem Ent.nilBox {n0 : Nat} {T : List (Nat × AV)} {A : List AO} {vs : List AV} (tok i : Nat) (e : Ty) (h0 : A[tok]? = some (.box vs)) (hi : vs[i]? = some .nilSl) :
    Ent n0 ⟨T, A⟩ ⟨T, List.set (A ++ [AO.row e []]) tok (.box (vs.set i (.ref A.length 0 0)))⟩ := fun c H hA hn tmps ht => by
  have hA : c.A = A := hA
  subst hA
  obtain ⟨k1, k2, k3⟩ := nilRow_sound H e
  have h1 : (c.nilRow e).A[tok]? = some (.box vs) := by show (c.A ++ [AO.row e []])[tok]? = _; rw [List.getElem?_append_left (get_lt h0)]; exact h0
  obtain ⟨j1, j2⟩ := rebox_sound (vs' := vs.set i (.ref c.A.length 0 0)) k2 h1 (fun _ cs _ _ _ hcs => by
    refine RelL.of_get _ _ (by rw [hcs.length, List.length_set]) fun j a v ha hv => ?_
    by_cases hij : j = i
    · subst hij
      rw [List.getElem?_set_self (get_lt hi)] at ha
      cases ha
      obtain ⟨u, hu, hr⟩ := RelL.get _ _ j _ hcs hi
      rw [hv] at hu; cases hu
      unfold Rel at hr
      rw [hr]; exact k3
    · rw [List.getElem?_set_ne (by omega)] at ha
      obtain ⟨u, hu, hr⟩ := RelL.get _ _ j _ hcs ha
      rw [hv] at hu; cases hu
      exact hr)
  exact ⟨(c.nilRow e).rebox tok (vs.set i (.ref c.A.length 0 0)), rfl, (k1.trans j1).toN' hn, j2, rfl, (fun n => (ht n).ext (k1.trans j1))⟩
/-- own slices within a box, as data for good -/
theorem Ent.datBox {n0 : Nat} {T : List (Nat × AV)} {A : List AO} {vs l : List AV} {A' : List AO} {C : Option Prop} (tok : Nat) (h0 : A[tok]? = some (.box vs)) (he : frz A vs = (C, l, A')) (hC : Hold C) (h1 : A'[tok]? = some (.box vs)) :
    Ent n0 ⟨T, A⟩ ⟨T, List.set A' tok (.box l)⟩ := fun c H hA hn tmps ht => by
  have hA : c.A = A := hA
  subst hA
  obtain ⟨b, cs, et, g1, g2, g3⟩ := H.obj tok _ h0
  obtain ⟨c', k1, k2, k3, k4, k5⟩ := frz_sound vs c cs H g3 (by rw [he]; exact hC)
  rw [he] at k4 k5
  have hA' : c'.A = A' := k4
  obtain ⟨j1, j2⟩ := rebox_sound (tok := tok) (vs' := l) k3 (by rw [hA']; exact h1) (fun b' cs' et' hb hh _ => by
    rw [k1.ρ, g1] at hb; cases hb
    rw [k1.w, g2] at hh
    have : cs = cs' := by
      have := Option.some.inj hh
      injection this with this
      exact congrArg Array.toList this
    rw [← this]; exact k5)
  refine ⟨c'.rebox tok l, k1.w, (k2.trans j1).toN' hn, j2, ?_, (fun n => (ht n).ext (k2.trans j1))⟩
  show c'.A.set tok _ = _
  rw [hA']
end Go.Ab
