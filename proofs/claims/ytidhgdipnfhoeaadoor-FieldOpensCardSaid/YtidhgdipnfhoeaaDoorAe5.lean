/-
  Contracts over fewer known variables serve where more are known.
-/
import Derived.Test.YtidhgdipnfhoeaaDoorAe4
namespace Go.Ab
open Go
def Cx.withG (c : Cx) (G : List (Nat × Value)) : Cx := { c with G := G }
mutual
theorem rel_withG {c : Cx} {G : List (Nat × Value)} : ∀ (a : AV) (v : Value), Rel c a v → Rel (c.withG G) a v
  | .fz _ _, _, h => by unfold Rel at *; exact h
  | .fptr _ _, _, h => by unfold Rel at *; exact h
  | .ref _ _ _, _, h => by unfold Rel at *; exact h
  | .nilSl, _, h => by unfold Rel at *; exact h
  | .ptr _ _, _, h => by unfold Rel at *; exact h
  | .elt _ _ _, _, h => by unfold Rel at *; exact h
  | .glob _, _, h => by unfold Rel at *; exact h
  | .agg l, _, h => by unfold Rel at *; obtain ⟨vs, h1, h2⟩ := h; exact ⟨vs, h1, relL_withG l vs h2⟩
  | .tup l, _, h => by unfold Rel at *; obtain ⟨vs, h1, h2⟩ := h; exact ⟨vs, h1, relL_withG l vs h2⟩
  | .fn _ l, _, h => by unfold Rel at *; obtain ⟨vs, h1, h2⟩ := h; exact ⟨vs, h1, relL_withG l vs h2⟩
  | .ifc _ a, _, h => by unfold Rel at *; obtain ⟨u, h1, h2⟩ := h; exact ⟨u, h1, rel_withG a u h2⟩
  | .opt _ a, v, h => by unfold Rel at *; exact ⟨fun hg => rel_withG a v (h.1 hg), h.2⟩
  | .unk, _, _ => by unfold Rel; trivial
theorem relL_withG {c : Cx} {G : List (Nat × Value)} : ∀ (l : List AV) (vs : List Value), RelL c l vs → RelL (c.withG G) l vs
  | [], vs, h => by unfold RelL at *; exact h
  | a :: l, vs, h => by unfold RelL at *; obtain ⟨v, r, e, h1, h2⟩ := h; exact ⟨v, r, e, rel_withG a v h1, relL_withG l r h2⟩
end
theorem obj_withG {c : Cx} {G : List (Nat × Value)} {r : Option Nat} {o : AO} (h : ObjOk c r o) : ObjOk (c.withG G) r o := by
  cases o with
  | dead => trivial
  | row e xs => exact h
  | box vs => obtain ⟨b, cs, et, h1, h2, h3⟩ := h; exact ⟨b, cs, et, h1, h2, relL_withG vs cs h3⟩
theorem acall_more {P : Program} {G G' : List (Nat × Value)} {f : FuncId} {args : List AV} {A : List AO} {K : AV → List AO → Prop} (h : ACall P G f args A K) (hG : ∀ g v, gk G g = some v → gk G' g = some v) : ACall P G' f args A K := by
  refine ⟨h.body, fun c H hA hG' vs hv => ?_⟩
  have H0 : HR (c.withG G) := ⟨H.far, H.inj, fun t o ht => obj_withG (H.obj t o ht), H.old, fun g v hg => by obtain ⟨q1, q2, q3, q4⟩ := H.glo g v (by rw [hG']; exact hG g v hg); exact ⟨q1, q2, q3, q4⟩⟩
  refine (h.run (c.withG G) H0 hA rfl vs (relL_withG _ _ hv)).mono fun e w' ⟨v, c', r, h1, h2, h3, h4, h5, h6⟩ => ⟨v, c'.withG G', r, h1, h2, ⟨⟨h3.le.I, h3.le.tok, h3.le.len⟩, h3.X, hG'.symm, h3.far, h3.st⟩, ?_, rel_withG _ _ h5, h6⟩
  refine ⟨h4.far, h4.inj, fun t o ht => obj_withG (h4.obj t o ht), h4.old, fun g v hg => ?_⟩
  obtain ⟨p1, p2, p3, p4⟩ := H.glo g v (by rw [hG']; exact hg)
  have q0 : GloOk (c.withG G) g v := ⟨p1, p2, p3, p4⟩
  obtain ⟨q1, q2, q3, q4⟩ := q0.mono h3.le.I
  exact ⟨q1, q2, q3, q4⟩
end Go.Ab
