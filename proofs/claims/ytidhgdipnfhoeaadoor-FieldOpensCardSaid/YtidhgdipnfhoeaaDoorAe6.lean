/-
  Laid errors: what their variables hold.
-/
import Derived.Test.YtidhgdipnfhoeaaDoorAe5
import Derived.LaidLaws
namespace Go.Ab
open Go Go.ChangeShapes
/-- an error with a text, as a row lays it -/
def errD {H : Type} (t : List UInt8) : DataW H := .iface "*errors.errorString" (.ptr (.agg [.lit (.string t)]))
theorem laid_errs {P : Program} {w : World} {T te ts : TypeId} {f : Field} (hrow : ∀ u, P.typeName? 3 u = some "*errors.errorString" → u = T)
    (hp : P.underlying T = some (.pointer te)) (he : P.underlying te = some (.struct #[f])) (hft : f.type = ts) (hfo : f.offset = 0) (hs : P.underlying ts = some .string) (hc : P.cellsOf te = 1) (hcs : P.cellsOf ts = 1) :
    ∀ (l : List (String × List UInt8)) (gs : List Nat) (ps : List MemPlace), DataW.LaidVars P w (l.map fun x => (x.1, errD x.2)) ps → ps.Nodup →
    (∀ b off, MemPlace.cell b off ∈ ps → (∃ c t, w.heap[b]? = some (.cells c t (0, 0))) ∧ ∀ u v, w.cell? ⟨b, off, none⟩ = some (.iface u v) → Value.okWide P w .any 0 u v) →
    (l.map fun x => P.globalNamed x.1) = gs.map some → (∀ g ∈ gs, ∃ ti ms, (P.globals[g]?).map (·.type) = some ti ∧ P.underlying ti = some (.interface ms)) →
    ∃ as : List Addr, as.length = gs.length ∧ as.Nodup ∧ (∀ (i : Nat) g a, gs[i]? = some g → as[i]? = some a → Glo0 w g (.iface T (.pointer (some a)))) ∧ ∀ a ∈ as, MemPlace.cell a.block a.off ∈ ps
  | [], [], _, _, _, _, _, _ => ⟨[], rfl, List.nodup_nil, fun i g a h => by simp at h, fun a h => by cases h⟩
  | [], _ :: _, _, _, _, _, h, _ => by simp at h
  | _ :: _, [], _, _, _, _, h, _ => by simp at h
  | x :: l, g :: gs, ps, h, hn, hall, hg, ht => by
    simp only [List.map_cons, List.cons.injEq] at hg
    obtain ⟨g', t', cs, fuel, p, q, h1, h2, h3, h4, h5, h6⟩ := h
    obtain rfl := Option.some.inj (hg.1.symm.trans h1)
    obtain ⟨ti, ms, k1, k2⟩ := ht g (List.mem_cons_self ..)
    obtain rfl := Option.some.inj (k1.symm.trans h2)
    subst h6
    obtain ⟨cl⟩ := cs
    have hok : ∀ u v, cl = [.iface u v] → Value.okWide P w .any 0 u v := fun u v e => by
      subst e
      exact (hall g 0 (by simp [MemPlace.row])).2 u v (by simpa using World.var?_cell h1 h3 0)
    obtain ⟨a, s, rfl, hca, _, _, rfl⟩ := errorString_of_trod k2 hrow hp he hft hfo hs hc hcs h4 hok
    have hmem : MemPlace.cell a.block a.off ∈ MemPlace.row a 1 := by simp [MemPlace.row]
    rw [List.append_assoc] at hn hall
    obtain ⟨as, j1, j2, j3, j4⟩ := laid_errs hrow hp he hft hfo hs hc hcs l gs q h5 ((hn.sublist (List.sublist_append_right _ _)).sublist (List.sublist_append_right _ _))
      (fun b off hb => hall b off (List.mem_append_right _ (List.mem_append_right _ hb))) hg.2 (fun g hg => ht g (List.mem_cons_of_mem _ hg))
    refine ⟨a :: as, by simp [j1], List.nodup_cons.2 ⟨fun hm => ?_, j2⟩, fun i g' a' h h' => ?_, fun a' h => ?_⟩
    · have := (List.nodup_append.1 (hn.sublist (List.sublist_append_right _ _))).2.2 _ hmem _ (j4 a hm)
      exact this rfl
    · cases i with
      | zero =>
        simp at h h'
        subst h; subst h'
        refine ⟨by simpa using World.var?_cell h1 h3 0, rfl, fun T' b e => ?_⟩
        cases e
        exact (hall a.block a.off (List.mem_append_right _ (List.mem_append_left _ hmem))).1
      | succ i => exact j3 i g' a' (by simpa using h) (by simpa using h')
    · rcases List.mem_cons.1 h with rfl | h
      · rw [List.append_assoc]; exact List.mem_append_right _ (List.mem_append_left _ hmem)
      · rw [List.append_assoc]; exact List.mem_append_right _ (List.mem_append_right _ (j4 a' h))
end Go.Ab
