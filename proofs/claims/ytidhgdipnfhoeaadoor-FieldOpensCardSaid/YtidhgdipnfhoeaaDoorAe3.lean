/-
  Regions that draw their order: the pairs that must be looked at, computed.
-/
import Derived.Test.YtidhgdipnfhoeaaDoorAe2
namespace Go.Ab
open Go
def pairsAt (M E : List Nat) (i : Nat) : List Nat → List (Nat × Nat)
  | [] => []
  | k :: ks => match okK M i k E 0 && !Nat.beq k (cntE E i) with
    | true => (i, k) :: pairsAt M E i ks
    | false => pairsAt M E i ks
def pairsOf (M E : List Nat) (ks : List Nat) : List Oper → Nat → List (Nat × Nat)
  | [], _ => []
  | o :: os, i => match isEff o.op with
    | true => pairsOf M E ks os (i + 1)
    | false => pairsAt M E i ks ++ pairsOf M E ks os (i + 1)
def autoX (L : List Oper) : List (Nat × Nat) := pairsOf (amask L []) (effsOf L 0) (List.range ((effsOf L 0).length + 1)) L 0
def drawnQ (P : Program) (D : Tab) (G : List (Nat × Value)) (L : List Oper) (A : List AO) (Q : List (Nat × AV) → List AO → Prop) (X : List (Nat × Nat)) (tr : List Rc) (T' : List (Nat × AV)) (A' : List AO) : Prop := match X with
  | [] => Q T' A'
  | X => extras P D G L tr (asL tr A) X ∧ Q T' A'
theorem exEff {p q : AV → List AO → Prop} {v0 : AV} {A0 : List AO} (h1 : p v0 A0) (h2 : q v0 A0) : ∃ v0 A0, p v0 A0 ∧ q v0 A0 := ⟨v0, A0, h1, h2⟩
theorem aRegion_auto {P : Program} {D : Tab} {G : List (Nat × Value)} {N : Nat} {L : List Oper} {T : List (Nat × AV)} {A : List AO} {Q : List (Nat × AV) → List AO → Prop} (h1 : drawB L (autoX L) = true)
    (h2 : aDraw P D G N L L T A [] (drawnQ P D G L A Q (autoX L))) : aRegion P D G N L T A Q := .inl ⟨autoX L, h1, h2⟩
/-- .. whose effects have no order: what there is when some of them have come (S: the bits of the effects that have) -/
theorem aRegion_open {P : Program} {D : Tab} {G : List (Nat × Value)} {N : Nat} {L : List Oper} {T : List (Nat × AV)} {A : List AO} {Q : List (Nat × AV) → List AO → Prop} (n : Nat) (h1 : drawM2 L (amask L []) (effsOf L 0) = true)
    (h2 : aDraw2 P D G N L L T (A ++ nilRows n) [] fun tr T' A' => ∃ S, lkS 0 S = some (A ++ nilRows n) ∧ lkS (fullM (effsOf L 0)) S = some A' ∧ stAll P D G L (amask L []) (effsOf L 0) S tr S ∧ Q T' A') : aRegion P D G N L T A Q := .inr ⟨h1, n, h2⟩
theorem eff_is {p : AV → List AO → Prop} (v0 : AV) (A0 : List AO) (h : p v0 A0) : ∃ v0 A0, p v0 A0 := ⟨v0, A0, h⟩
theorem view_of {m : Nat} {v v' : AV} {A' A'' : List AO} (p : List Nat) (h1 : viewB p m A' A'' = true) (h2 : RenA p A' A''.length 0 A'') (h3 : v = v'.map (nameOf p)) (h4 : v'.okB A''.length = true) : View m v A' v' A'' := ⟨p, h1, h2, h3, h4⟩
/-- arguments written otherwise -/
theorem acall_arg {P : Program} {G : List (Nat × Value)} {f : FuncId} {args args' : List AV} {A : List AO} {K : AV → List AO → Prop} (h : ACall P G f args' A K) (he : args' = args) : ACall P G f args A K := he ▸ h
end Go.Ab
