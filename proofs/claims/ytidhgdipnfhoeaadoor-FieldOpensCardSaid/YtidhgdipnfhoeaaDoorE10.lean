/-
  Opened, closed: the plain law.
-/
import Derived.Test.YtidhgdipnfhoeaaDoorE9
namespace Go.Proofs.YtidhgdipnfhoeaaDoor
open Go Go.Ab
set_option maxRecDepth 100000
def opn (a : Ras) (r : Int) : Ras := onR maxL (onR minL a r) r
def cls (a : Ras) (r : Int) : Ras := onR minL (onR maxL a r) r
def neg (a : Ras) : Ras := (a.1, a.2.1, a.2.2.map fun h => 0 - h)
def negL (l : List Int) (i : Nat) : List Int := (l.take i).map fun h => 0 - h
theorem negL_len {l : List Int} {i : Nat} (h : i ≤ l.length) : (negL l i).length = i := by unfold negL; simp; omega
theorem negL_step {l : List Int} {i : Nat} (h : i < l.length) : negL l (i + 1) = negL l i ++ [0 - l.getD i 0] := by
  unfold negL; rw [List.take_succ_eq_append_getElem h, List.map_append]; simp [List.getD, h]
theorem open_to (E : Errs) (a : Ras) (reach : Int) (h0 : rerr a = 0) (h1 : 0 ≤ reach) (h2 : reach ≤ 128) (hb : rerr (onR minL a reach) = 0) (hl : a.2.2.length ≤ 1000000000000) (K : AV → List AO → Prop)
    (hK : ∀ o, o = opn a reach → K (RE o .nilIface) []) : ACall Tryd.prog (GE E) 11 [.fz RasT a, .fz int reach] [] K := open_any E a reach h0 h1 h2 hb hl K (hK _ rfl)
theorem close_to (E : Errs) (a : Ras) (reach : Int) (h0 : rerr a = 0) (h1 : 0 ≤ reach) (h2 : reach ≤ 128) (hb : rerr (onR maxL a reach) = 0) (hl : a.2.2.length ≤ 1000000000000) (K : AV → List AO → Prop)
    (hK : ∀ o, o = cls a reach → K (RE o .nilIface) []) : ACall Tryd.prog (GE E) 12 [.fz RasT a, .fz int reach] [] K := close_any E a reach h0 h1 h2 hb hl K (hK _ rfl)
/-- what is to be shown of rasters opened and closed, with no program in sight -/
structure OpensPlain (a : Ras) (r : Int) : Prop where
  okmin : rerr (onR minL a r) = 0
  okmax : rerr (onR maxL a r) = 0
  okopn : rerr (opn a r) = 0
  okcls : rerr (cls a r) = 0
  okmin2 : rerr (onR minL (opn a r) r) = 0
  okmax2 : rerr (onR maxL (cls a r) r) = 0
  okneg : rerr (neg a) = 0
  okneg2 : rerr (onR maxL (neg a) r) = 0
  le : ∀ i, i < a.2.2.length → (opn a r).2.2.getD i 0 ≤ a.2.2.getD i 0
  ge : ∀ i, i < a.2.2.length → a.2.2.getD i 0 ≤ (cls a r).2.2.getD i 0
  dn : ∀ i, i < a.2.2.length → (cls (neg a) r).2.2.getD i 0 = 0 - (opn a r).2.2.getD i 0
  oo : (opn (opn a r) r).2.2 = (opn a r).2.2
  cc : (cls (cls a r) r).2.2 = (cls a r).2.2
end Go.Proofs.YtidhgdipnfhoeaaDoor
