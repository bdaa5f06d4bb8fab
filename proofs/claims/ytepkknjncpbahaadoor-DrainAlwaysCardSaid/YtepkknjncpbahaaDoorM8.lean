/-
  Cells that are wet: the walk of the document's; what holds of the first one, and goes on to low neighbours, holds of all.
-/
import Derived.Test.YtepkknjncpbahaaDoorM7
import Derived.Test.YtepkknjncpbahaaDoorChecked
import Derived.WalkKit
import Derived.ProofKit
import Derived.OpenShut
import Derived.Carry
import Derived.Test.YtepkknjncpbahaaDoorTie
import Derived.Test.YtepkknjncpbahaaDoorCards
import Derived.SevenTiedAt
import Derived.LaidMore
import Derived.Lay
import Derived.Deep.Slices
import Derived.Lib.SmallJoins
import Derived.Stop.Joined
namespace Go.Proofs.YtepkknjncpbahaaDoor
open Go Go.Ab
set_option maxRecDepth 100000
theorem lower_one (G : List (Nat × Value)) (x num : Int) (hx : -4611686018427387904 ≤ x ∧ x ≤ 4611686018427387904) (K : AV → List AO → Prop) (hK : K (.fz .bool (decide (x ≤ num))) []) :
    ACall Tryd.prog G 42 [.fz int x, .fz int num, .fz int 1, .fz .bool true] [] K := by
  have e : x * 1 = x := Int.mul_one x
  refine acall_mk (E := envAt G 20 0) (envOk _ _ _) Tryd.func42 rfl rfl rfl rfl rfl ?_
  (repeat' (first | exact trivial | exact fun h => h | refine And.intro ?_ ?_ | (intro hb; first | (simp at hb; done) | (simp at hb) | skip) | omega | exact rfl | exact Nat.le_refl _ | (show _ + 1 ≤ 4294967296; omega) | (dsimp only; omega) | (show (_ : Int) ≤ (_ : Int); omega) | (show _ < List.length _; simp only [List.length_set, List.length_append, List.length_take]; omega) | (show wantB _ _ = true; simp; done) | (show wantB _ _ = true; simp; omega) | (show (_ : Bool) = _; simp_all; done) | (exfalso; omega) | refine aRegion_auto (by decide +kernel) ?_ | refine ⟨_, _, REnt.drop ⟨rfl, rfl⟩, ?_⟩ | fail))
  exact kbl hK (by rw [e])
def cntF : Nat → (Nat → Bool) → Nat
  | 0, _ => 0
  | n + 1, f => cntF n f + (if f n = true then 0 else 1)
def setT (f : Nat → Bool) (i j : Nat) : Bool := if j = i then true else f j
theorem cntF_congr {f g : Nat → Bool} : ∀ n, (∀ i, i < n → f i = g i) → cntF n f = cntF n g
  | 0, _ => rfl
  | n + 1, h => by unfold cntF; rw [cntF_congr n fun i hi => h i (by omega), h n (by omega)]
theorem cntF_set {f : Nat → Bool} {i : Nat} (hf : f i = false) : ∀ n, i < n → cntF n (setT f i) + 1 = cntF n f
  | 0, h => by omega
  | n + 1, h => by
    unfold cntF
    by_cases e : i = n
    · subst e
      have : cntF i (setT f i) = cntF i f := cntF_congr i fun j hj => by unfold setT; rw [if_neg (by omega)]
      rw [this, hf]
      unfold setT
      simp
    · have := cntF_set hf n (by omega)
      have e2 : setT f i n = f n := by unfold setT; rw [if_neg (fun h => e h.symm)]
      rw [e2]; omega
set_option maxHeartbeats 8000000 in
theorem wet_any (G : List (Nat × Value)) (a : Ras) {w h n : Nat} (R : RasN a w h) (hn : n = w * h) (cell : Nat) (hc : cell < n) (c : Int) (hL : ∀ i, i < n → -4611686018427387904 ≤ hts a i ∧ hts a i ≤ 4611686018427387904) (Q : Nat → Prop) (h0 : hts a cell ≤ c → Q cell)
    (hq : ∀ i k, i < n → k < n → touchN w i k → hts a i ≤ c → Q k → Q i) (K : AV → List AO → Prop) (hK : ∀ f : Nat → Bool, (∀ m, m < n → f m = true → Q m) → K (.ref 0 0 n) [.row .bool (lsb n f)]) :
    ACall Tryd.prog G 17 [.fptr RasT a, .fz int cell, .fz int c, .fz int 1, .fz .bool true] [] K := by
  have hl := R.len
  have hwh := R.wh
  rw [← hn] at hl hwh
  have n0 : 0 < n := by omega
  have hrep : (List.replicate (Int.toNat ((List.length a.2.2 : Nat) : Int)) Ty.bool.dft).length = n := by simp [hl]
  have hgl : ∀ i : Nat, i < n → List.getD a.2.2 (Int.toNat (i : Int)) int.dft = hts a i := fun i _ => rfl
  refine acall_mk (E := envAt G 101 0) (envOk _ _ _) Tryd.func17 rfl rfl rfl rfl rfl ?_
  (repeat' (first | exact trivial | exact fun h => h | refine And.intro ?_ ?_ | (intro hb; first | (simp at hb; done) | (simp at hb) | skip) | omega | exact rfl | exact Nat.le_refl _ | (show _ + 1 ≤ 4294967296; omega) | (dsimp only; omega) | (show (_ : Int) ≤ (_ : Int); omega) | (show _ < List.length _; simp only [List.length_set, List.length_append, List.length_take]; omega) | (show wantB _ _ = true; simp; done) | (show wantB _ _ = true; simp; omega) | (show (_ : Bool) = _; simp_all; done) | (exfalso; omega) | fail))
  refine acall_frame0 rfl (acall_arg (lower_one _ (hts a cell) c (hL cell hc) _ ?_) rfl)
  (repeat' (first | exact trivial | exact fun h => h | refine And.intro ?_ ?_ | (intro hb; first | (simp at hb; done) | (simp at hb) | skip) | omega | exact rfl | exact Nat.le_refl _ | (show _ + 1 ≤ 4294967296; omega) | (dsimp only; omega) | (show (_ : Int) ≤ (_ : Int); omega) | (show _ < List.length _; simp only [List.length_set, List.length_append, List.length_take]; omega) | (show wantB _ _ = true; simp; done) | (show wantB _ _ = true; simp; omega) | (show (_ : Bool) = _; simp_all; done) | (exfalso; omega) | fail))
  obtain ⟨f0, hf0⟩ : ∃ f0 : Nat → Bool, f0 = fun j => if j = cell then decide (hts a cell ≤ c) else false := ⟨_, rfl⟩
  have e0 : List.set (List.replicate n false) (0 + Int.toNat (cell : Int)) (decide (hts a cell ≤ c)) = lsb n f0 := by
    rw [lsb_zero, Nat.zero_add, Int.toNat_natCast, lsb_set, hf0]
  have hS := fun f => lsb_len n f
  refine ⟨(Nat → Bool) × Bool, fun x => ⟨[(0, .fptr RasT a), (2, .fz int c), (3, .fz int 1), (4, .fz .bool true), (11, .ref 0 0 n), (12, .fz .bool x.2)], [.row .bool (lsb n x.1)]⟩, fun x => ∀ m, m < n → x.1 m = true → Q m, fun x => 2 * cntF n x.1 + (if x.2 = true then 1 else 0), (f0, decide (hts a cell ≤ c)), (fun m hm hf => ?_), Ent.sub ?_ ?_, ?_⟩
  · rw [hf0] at hf
    by_cases e : m = cell
    · subst e
      have : (if m = m then decide (hts a m ≤ c) else false) = true := hf
      rw [if_pos rfl] at this
      exact h0 (of_decide_eq_true this)
    · have : (if m = cell then decide (hts a cell ≤ c) else false) = true := hf
      rw [if_neg e] at this; cases this
  · show [AO.row Ty.bool (List.set (List.replicate (Int.toNat ((List.length a.2.2 : Nat) : Int)) false) (0 + Int.toNat (cell : Int)) (decide (hts a cell ≤ c)))] = [AO.row Ty.bool (lsb n f0)]
    rw [hl, Int.toNat_natCast, e0]
  · (repeat' (first | exact trivial | exact rfl | refine And.intro ?_ ?_))
    · exact congrArg (AV.ref 0 0) (by rw [hl]; exact Int.toNat_natCast n)
    refine congrArg (AV.fz .bool) (?_ : List.getD (List.set (List.replicate (Int.toNat ((List.length a.2.2 : Nat) : Int)) false) (0 + Int.toNat (cell : Int)) (decide (hts a cell ≤ c))) (0 + Int.toNat (cell : Int)) false = decide (hts a cell ≤ c))
    rw [hl, Int.toNat_natCast, e0, Nat.zero_add, Int.toNat_natCast, lsb_at _ hc, hf0]
    exact if_pos rfl
  rintro ⟨f, ag⟩ hQ
  cases ag with
  | false =>
    have hQ' : ∀ m, m < n → f m = true → Q m := hQ
    (repeat' (first | exact trivial | exact fun h => h | refine And.intro ?_ ?_ | (intro hb; first | (simp at hb; done) | (simp at hb) | skip) | omega | exact rfl | exact Nat.le_refl _ | (show _ + 1 ≤ 4294967296; omega) | (dsimp only; omega) | (show (_ : Int) ≤ (_ : Int); omega) | (show _ < List.length _; simp only [List.length_set, List.length_append, List.length_take]; omega) | (show wantB _ _ = true; simp; done) | (show wantB _ _ = true; simp; omega) | (show (_ : Bool) = _; simp_all; done) | (exfalso; omega) | fail))
    refine ⟨_, _, REnt.ren [0] rfl ?_ ?_, hK f hQ'⟩
    · (repeat' (first | exact trivial | exact rfl | refine And.intro ?_ ?_))
    · (repeat' (first | exact trivial | exact rfl | refine And.intro ?_ ?_))
  | true =>
    have hQ' : ∀ m, m < n → f m = true → Q m := hQ
    (repeat' (first | exact trivial | exact fun h => h | refine And.intro ?_ ?_ | (intro hb; first | (simp at hb; done) | (simp at hb) | skip) | omega | exact rfl | exact Nat.le_refl _ | (show _ + 1 ≤ 4294967296; omega) | (dsimp only; omega) | (show (_ : Int) ≤ (_ : Int); omega) | (show _ < List.length _; simp only [List.length_set, List.length_append, List.length_take]; omega) | (show wantB _ _ = true; simp; done) | (show wantB _ _ = true; simp; omega) | (show (_ : Bool) = _; simp_all; done) | (exfalso; omega) | fail))
    refine ⟨Nat × ((Nat → Bool) × Bool), fun x => ⟨[(0, .fptr RasT a), (2, .fz int c), (3, .fz int 1), (4, .fz .bool true), (11, .ref 0 0 n), (12, .fz .bool x.2.2), (13, .fz int x.1)], [.row .bool (lsb n x.2.1)]⟩, fun x => x.1 ≤ n ∧ (∀ m, m < n → x.2.1 m = true → Q m) ∧ cntF n x.2.1 ≤ cntF n f ∧ (x.2.2 = true → cntF n x.2.1 < cntF n f), fun x => n - x.1, (0, (f, false)), ⟨Nat.zero_le _, hQ', Nat.le_refl _, (fun h => absurd h (by simp))⟩, Ent.sub ?_ ?_, ?_⟩
    · (repeat' (first | exact rfl | refine cons_eq ?_ ?_))
    · (repeat' (first | exact trivial | exact rfl | refine And.intro ?_ ?_))
    rintro ⟨i, g, ag⟩ ⟨hi, hQg, hg1, hg2⟩
    have hi : i ≤ n := hi
    have hQg : ∀ m, m < n → g m = true → Q m := hQg
    have hg1 : cntF n g ≤ cntF n f := hg1
    have hg2 : ag = true → cntF n g < cntF n f := hg2
    show awp _ _ _ ⟨[(0, .fptr RasT a), (2, .fz int c), (3, .fz int 1), (4, .fz .bool true), (11, .ref 0 0 n), (12, .fz .bool ag), (13, .fz int i)], [.row .bool (lsb n g)]⟩
    have hSg := hS g
    by_cases hin : i < n
    · (repeat' (first | exact trivial | exact fun h => h | refine And.intro ?_ ?_ | (intro hb; first | (simp at hb; done) | (simp at hb) | skip) | omega | exact rfl | exact Nat.le_refl _ | (show _ + 1 ≤ 4294967296; omega) | (dsimp only; omega) | (show (_ : Int) ≤ (_ : Int); omega) | (show _ < List.length _; simp only [List.length_set, List.length_append, List.length_take]; omega) | (show wantB _ _ = true; simp; done) | (show wantB _ _ = true; simp; omega) | (show (_ : Bool) = _; simp_all; done) | (exfalso; omega) | fail))
      refine acall_frame0 rfl (acall_arg (lower_one _ (hts a i) c (hL i hin) _ ?_) rfl)
      have g2 : (lsb n g)[i]?.getD Ty.bool.dft = g i := lsb_get _ hin
      by_cases hlow : hts a i ≤ c
      · rw [decide_eq_true hlow]
        (repeat' (first | exact trivial | exact fun h => h | refine And.intro ?_ ?_ | (intro hb; first | (simp at hb; done) | (simp at hb) | skip) | omega | exact rfl | exact Nat.le_refl _ | (show _ + 1 ≤ 4294967296; omega) | (dsimp only; omega) | (show (_ : Int) ≤ (_ : Int); omega) | (show _ < List.length _; simp only [List.length_set, List.length_append, List.length_take]; omega) | (show wantB _ _ = true; simp; done) | (show wantB _ _ = true; simp; omega) | (show (_ : Bool) = _; simp_all; done) | (exfalso; omega) | fail))
        · refine ⟨(i + 1, (g, ag)), ⟨by show i + 1 ≤ n; omega, hQg, hg1, hg2⟩, by show n - (i + 1) < n - i; omega, Ent.sub ?_ ?_⟩
          · (repeat' (first | exact rfl | refine cons_eq ?_ ?_))
          · (repeat' (first | exact trivial | exact rfl | refine And.intro ?_ ?_))
        refine ⟨Nat × ((Nat → Bool) × Bool), fun x => ⟨[(0, .fptr RasT a), (2, .fz int c), (3, .fz int 1), (4, .fz .bool true), (11, .ref 0 0 n), (12, .fz .bool x.2.2), (13, .fz int i), (15, .fz int x.1)], [.row .bool (lsb n x.2.1)]⟩, fun x => x.1 ≤ n ∧ (∀ m, m < n → x.2.1 m = true → Q m) ∧ cntF n x.2.1 ≤ cntF n f ∧ (x.2.2 = true → cntF n x.2.1 < cntF n f), fun x => n - x.1, (0, (g, ag)), ⟨Nat.zero_le _, hQg, hg1, hg2⟩, Ent.sub ?_ ?_, ?_⟩
        · (repeat' (first | exact rfl | refine cons_eq ?_ ?_))
        · (repeat' (first | exact trivial | exact rfl | refine And.intro ?_ ?_))
        clear hQg hg1 hg2 hSg g2 hb
        rintro ⟨k, g, ag⟩ ⟨hk, hQg, hg1, hg2⟩
        have hk : k ≤ n := hk
        have hQg : ∀ m, m < n → g m = true → Q m := hQg
        have hg1 : cntF n g ≤ cntF n f := hg1
        have hg2 : ag = true → cntF n g < cntF n f := hg2
        show awp _ _ _ ⟨[(0, .fptr RasT a), (2, .fz int c), (3, .fz int 1), (4, .fz .bool true), (11, .ref 0 0 n), (12, .fz .bool ag), (13, .fz int i), (15, .fz int k)], [.row .bool (lsb n g)]⟩
        have hSg := hS g
        by_cases hkn : k < n
        · (repeat' (first | exact trivial | exact fun h => h | refine And.intro ?_ ?_ | (intro hb; first | (simp at hb; done) | (simp at hb) | skip) | omega | exact rfl | exact Nat.le_refl _ | (show _ + 1 ≤ 4294967296; omega) | (dsimp only; omega) | (show (_ : Int) ≤ (_ : Int); omega) | (show _ < List.length _; simp only [List.length_set, List.length_append, List.length_take]; omega) | (show wantB _ _ = true; simp; done) | (show wantB _ _ = true; simp; omega) | (show (_ : Bool) = _; simp_all; done) | (exfalso; omega) | fail))
          refine acall_frame0 rfl (touch_any _ a R i k (by omega) (by omega) _ ?_)
          have g2 : (lsb n g)[i]?.getD Ty.bool.dft = g i := lsb_get _ hin
          have g3 : (lsb n g)[k]?.getD Ty.bool.dft = g k := lsb_get _ hkn
          by_cases ht : touchN w i k
          · rw [decide_eq_true ht]
            (repeat' (first | exact trivial | exact fun h => h | refine And.intro ?_ ?_ | (intro hb; first | (simp at hb; done) | (simp at hb) | skip) | omega | exact rfl | exact Nat.le_refl _ | (show _ + 1 ≤ 4294967296; omega) | (dsimp only; omega) | (show (_ : Int) ≤ (_ : Int); omega) | (show _ < List.length _; simp only [List.length_set, List.length_append, List.length_take]; omega) | (show wantB _ _ = true; simp; done) | (show wantB _ _ = true; simp; omega) | (show (_ : Bool) = _; simp_all; done) | (exfalso; omega) | fail))
            · have hgk : g k = true := g3.symm.trans hb.1
              have hgi : g i = false := g2.symm.trans hb.2
              have hcs := cntF_set hgi n hin
              refine ⟨(k + 1, (setT g i, true)), ⟨by show k + 1 ≤ n; omega, (fun m hm he => ?_), by show cntF n (setT g i) ≤ cntF n f; omega, fun _ => by show cntF n (setT g i) < cntF n f; omega⟩, by show n - (k + 1) < n - k; omega, Ent.sub ?_ ?_⟩
              · have he : setT g i m = true := he
                unfold setT at he
                by_cases e : m = i
                · rw [e]
                  exact hq i k hin hkn ht hlow (hQg k hkn hgk)
                · rw [if_neg e] at he
                  exact hQg m hm he
              · (repeat' (first | exact rfl | refine cons_eq ?_ ?_))
                exact rowb_set (k := i) (f := g) (g := setT g i) true rfl fun j hj => rfl
              · (repeat' (first | exact trivial | exact rfl | refine And.intro ?_ ?_))
            · refine ⟨(k + 1, (g, ag)), ⟨by show k + 1 ≤ n; omega, hQg, hg1, hg2⟩, by show n - (k + 1) < n - k; omega, Ent.sub ?_ ?_⟩
              · (repeat' (first | exact rfl | refine cons_eq ?_ ?_))
              · (repeat' (first | exact trivial | exact rfl | refine And.intro ?_ ?_))
          · rw [decide_eq_false ht]
            (repeat' (first | exact trivial | exact fun h => h | refine And.intro ?_ ?_ | (intro hb; first | (simp at hb; done) | (simp at hb) | skip) | omega | exact rfl | exact Nat.le_refl _ | (show _ + 1 ≤ 4294967296; omega) | (dsimp only; omega) | (show (_ : Int) ≤ (_ : Int); omega) | (show _ < List.length _; simp only [List.length_set, List.length_append, List.length_take]; omega) | (show wantB _ _ = true; simp; done) | (show wantB _ _ = true; simp; omega) | (show (_ : Bool) = _; simp_all; done) | (exfalso; omega) | fail))
            refine ⟨(k + 1, (g, ag)), ⟨by show k + 1 ≤ n; omega, hQg, hg1, hg2⟩, by show n - (k + 1) < n - k; omega, Ent.sub ?_ ?_⟩
            · (repeat' (first | exact rfl | refine cons_eq ?_ ?_))
            · (repeat' (first | exact trivial | exact rfl | refine And.intro ?_ ?_))
        · have hke : k = n := by omega
          subst hke
          (repeat' (first | exact trivial | exact fun h => h | refine And.intro ?_ ?_ | (intro hb; first | (simp at hb; done) | (simp at hb) | skip) | omega | exact rfl | exact Nat.le_refl _ | (show _ + 1 ≤ 4294967296; omega) | (dsimp only; omega) | (show (_ : Int) ≤ (_ : Int); omega) | (show _ < List.length _; simp only [List.length_set, List.length_append, List.length_take]; omega) | (show wantB _ _ = true; simp; done) | (show wantB _ _ = true; simp; omega) | (show (_ : Bool) = _; simp_all; done) | (exfalso; omega) | fail))
          refine ⟨(i + 1, (g, ag)), ⟨by show i + 1 ≤ k; omega, hQg, hg1, hg2⟩, by show k - (i + 1) < k - i; omega, Ent.sub ?_ ?_⟩
          · (repeat' (first | exact rfl | refine cons_eq ?_ ?_))
          · (repeat' (first | exact trivial | exact rfl | refine And.intro ?_ ?_))
      · rw [decide_eq_false hlow]
        (repeat' (first | exact trivial | exact fun h => h | refine And.intro ?_ ?_ | (intro hb; first | (simp at hb; done) | (simp at hb) | skip) | omega | exact rfl | exact Nat.le_refl _ | (show _ + 1 ≤ 4294967296; omega) | (dsimp only; omega) | (show (_ : Int) ≤ (_ : Int); omega) | (show _ < List.length _; simp only [List.length_set, List.length_append, List.length_take]; omega) | (show wantB _ _ = true; simp; done) | (show wantB _ _ = true; simp; omega) | (show (_ : Bool) = _; simp_all; done) | (exfalso; omega) | fail))
        refine ⟨(i + 1, (g, ag)), ⟨by show i + 1 ≤ n; omega, hQg, hg1, hg2⟩, by show n - (i + 1) < n - i; omega, Ent.sub ?_ ?_⟩
        · (repeat' (first | exact rfl | refine cons_eq ?_ ?_))
        · (repeat' (first | exact trivial | exact rfl | refine And.intro ?_ ?_))
    · have hie : i = n := by omega
      subst hie
      (repeat' (first | exact trivial | exact fun h => h | refine And.intro ?_ ?_ | (intro hb; first | (simp at hb; done) | (simp at hb) | skip) | omega | exact rfl | exact Nat.le_refl _ | (show _ + 1 ≤ 4294967296; omega) | (dsimp only; omega) | (show (_ : Int) ≤ (_ : Int); omega) | (show _ < List.length _; simp only [List.length_set, List.length_append, List.length_take]; omega) | (show wantB _ _ = true; simp; done) | (show wantB _ _ = true; simp; omega) | (show (_ : Bool) = _; simp_all; done) | (exfalso; omega) | fail))
      refine ⟨(g, ag), hQg, ?_, Ent.sub ?_ ?_⟩
      · show 2 * cntF i g + (if ag = true then 1 else 0) < 2 * cntF i f + (if true = true then 1 else 0)
        rw [if_pos rfl]
        by_cases e : ag = true
        · have := hg2 e
          rw [if_pos e]; omega
        · rw [if_neg e]; omega
      · (repeat' (first | exact rfl | refine cons_eq ?_ ?_))
      · (repeat' (first | exact trivial | exact rfl | refine And.intro ?_ ?_))
end Go.Proofs.YtepkknjncpbahaaDoor
/-
  The flood, Gather, Way: the walks once more, where three errors alone are known.
-/
namespace Go.Proofs.YtepkknjncpbahaaDoor
open Go Go.Ab
set_option maxRecDepth 100000
theorem valid1E (E : Errs) (a : Ras) (hl : a.2.2.length ≤ 1000000000000) (K : AV → List AO → Prop) (hK : K (.fz .raw (er E (rerr a))) []) : ACall Tryd.prog (GE E) 53 [.fz RasT a] [] K :=
  (valid_any E a hl K (fun h => by rw [h] at hK; exact hK) (fun h => by rw [h] at hK; exact hK) (fun h => by rw [h] at hK; exact hK) (fun h => by rw [h] at hK; exact hK))
set_option maxHeartbeats 8000000 in
theorem flood_okE (E : Errs) (a : Ras) (hv : rerr a = 0) {w h : Nat} (R : RasN a w h) (K : AV → List AO → Prop) (hK : K (.tup [.fz FT (fResP w h a), .fz .raw .nilIface]) []) :
    ACall Tryd.prog (GE E) 37 [.fz RasT a] [] K := by
  have hl := R.len
  have hwh := R.wh
  have hpos : 0 < w * h := Nat.mul_pos R.w0 R.h0
  obtain ⟨n, hn⟩ : ∃ n, n = w * h := ⟨_, rfl⟩
  rw [← hn] at hl hwh hpos
  let bA : AO := .box [.fz int a.1, .fz int a.2.1, .fz (.list int) a.2.2]
  let bR : AO := .box [.nilSl, .nilSl, .nilSl]
  let rm : AO := .room
  let Z : AO := .row int (List.replicate a.2.2.length 0)
  let C : AO := .row int a.2.2
  let B1 : AO := .box [.ref 4 0 a.2.2.length, .ref 2 0 a.2.2.length, .nilSl]
  refine acall_mk (E := envAt (GE E) 119 0) (envOk _ _ _) Tryd.func37 rfl rfl rfl rfl rfl ?_
  (repeat' (first | exact trivial | exact fun h => h | refine And.intro ?_ ?_ | (intro hb; first | (simp at hb; done) | (simp at hb) | skip) | omega | exact rfl | exact Nat.le_refl _ | (show _ + 1 ≤ 4294967296; omega) | (dsimp only; omega) | (show (_ : Int) ≤ (_ : Int); omega) | (show _ < List.length _; simp only [List.length_set, List.length_append, List.length_take]; omega) | (show wantB _ _ = true; simp; done) | (show wantB _ _ = true; simp; omega) | (show (_ : Bool) = _; simp_all; done) | (exfalso; omega) | fail))
  refine acall_conv [.dat RasT] _ _ _ rfl trivial (acall_frame0 rfl (valid1E E a (by omega) _ ?_))
  rw [hv]
  (repeat' (first | exact trivial | exact fun h => h | refine And.intro ?_ ?_ | (intro hb; first | (simp at hb; done) | (simp at hb) | skip) | omega | exact rfl | exact Nat.le_refl _ | (show _ + 1 ≤ 4294967296; omega) | (dsimp only; omega) | (show (_ : Int) ≤ (_ : Int); omega) | (show _ < List.length _; simp only [List.length_set, List.length_append, List.length_take]; omega) | (show wantB _ _ = true; simp; done) | (show wantB _ _ = true; simp; omega) | (show (_ : Bool) = _; simp_all; done) | (exfalso; omega) | fail))
  refine aRegion_open 2 (by decide +kernel) ?_
  (repeat' (first | exact trivial | exact fun h => h | refine And.intro ?_ ?_ | (intro hb; first | (simp at hb; done) | (simp at hb) | skip) | omega | exact rfl | exact Nat.le_refl _ | (show _ + 1 ≤ 4294967296; omega) | (dsimp only; omega) | (show (_ : Int) ≤ (_ : Int); omega) | (show _ < List.length _; simp only [List.length_set, List.length_append, List.length_take]; omega) | (show wantB _ _ = true; simp; done) | (show wantB _ _ = true; simp; omega) | (show (_ : Bool) = _; simp_all; done) | (exfalso; omega) | refine aRegion_auto (by decide +kernel) ?_ | fail))
  refine eff_is (.ref 4 0 a.2.2.length) [bA, bR, rm, rm, C] ?_
  (repeat' (first | exact trivial | exact fun h => h | refine And.intro ?_ ?_ | (intro hb; first | (simp at hb; done) | (simp at hb) | skip) | omega | exact rfl | exact Nat.le_refl _ | (show _ + 1 ≤ 4294967296; omega) | (dsimp only; omega) | (show (_ : Int) ≤ (_ : Int); omega) | (show _ < List.length _; simp only [List.length_set, List.length_append, List.length_take]; omega) | (show wantB _ _ = true; simp; done) | (show wantB _ _ = true; simp; omega) | (show (_ : Bool) = _; simp_all; done) | (exfalso; omega) | refine aRegion_auto (by decide +kernel) ?_ | fail))
  refine eff_is (.ref 2 0 a.2.2.length) [bA, bR, Z, rm, C] ?_
  (repeat' (first | exact trivial | exact fun h => h | refine And.intro ?_ ?_ | (intro hb; first | (simp at hb; done) | (simp at hb) | skip) | omega | exact rfl | exact Nat.le_refl _ | (show _ + 1 ≤ 4294967296; omega) | (dsimp only; omega) | (show (_ : Int) ≤ (_ : Int); omega) | (show _ < List.length _; simp only [List.length_set, List.length_append, List.length_take]; omega) | (show wantB _ _ = true; simp; done) | (show wantB _ _ = true; simp; omega) | (show (_ : Bool) = _; simp_all; done) | (exfalso; omega) | refine aRegion_auto (by decide +kernel) ?_ | fail))
  refine eff_is (.ptr 3 0) [bA, bR, Z, bR, C] ?_
  (repeat' (first | exact trivial | exact fun h => h | refine And.intro ?_ ?_ | (intro hb; first | (simp at hb; done) | (simp at hb) | skip) | omega | exact rfl | exact Nat.le_refl _ | (show _ + 1 ≤ 4294967296; omega) | (dsimp only; omega) | (show (_ : Int) ≤ (_ : Int); omega) | (show _ < List.length _; simp only [List.length_set, List.length_append, List.length_take]; omega) | (show wantB _ _ = true; simp; done) | (show wantB _ _ = true; simp; omega) | (show (_ : Bool) = _; simp_all; done) | (exfalso; omega) | refine aRegion_auto (by decide +kernel) ?_ | fail))
  refine eff_is .unk [bA, bR, Z, B1, C] ?_
  refine ⟨[(0, [bA, bR, rm, rm]), (4, [bA, bR, rm, rm, C]), (64, [bA, bR, Z, rm]), (256, [bA, bR, rm, bR]), (68, [bA, bR, Z, rm, C]), (260, [bA, bR, rm, bR, C]), (320, [bA, bR, Z, bR]), (324, [bA, bR, Z, bR, C]), (836, [bA, bR, Z, B1, C])], rfl, rfl, ?_, ?_⟩
  · (repeat' (first | refine And.intro ?_ ?_ | exact trivial | exact rfl | omega))
    all_goals first
      | (refine view_of [0, 1, 4, 3] rfl ?_ rfl rfl; (repeat' (first | exact trivial | exact rfl | refine And.intro ?_ ?_)); done)
      | (refine view_of [0, 1, 2, 4] rfl ?_ rfl rfl; (repeat' (first | exact trivial | exact rfl | refine And.intro ?_ ?_)); done)
      | (refine view_of [0, 1, 5, 3, 4] rfl ?_ rfl rfl; (repeat' (first | exact trivial | exact rfl | refine And.intro ?_ ?_)); done)
      | (refine view_of [0, 1, 2, 5, 4] rfl ?_ rfl rfl; (repeat' (first | exact trivial | exact rfl | refine And.intro ?_ ?_)); done)
      | (refine view_of [0, 1, 2, 3, 4] rfl ?_ rfl rfl; (repeat' (first | exact trivial | exact rfl | refine And.intro ?_ ?_)); done)
      | (refine acall_frame0 rfl (clone_any _ a.2.2 (by omega) (by omega) _ ?_); refine view_of [0, 1, 2, 3, 4] rfl ?_ rfl rfl; (repeat' (first | exact trivial | exact rfl | refine And.intro ?_ ?_)); done)
  (repeat' (first | exact trivial | exact fun h => h | refine And.intro ?_ ?_ | (intro hb; first | (simp at hb; done) | (simp at hb) | skip) | omega | exact rfl | exact Nat.le_refl _ | (show _ + 1 ≤ 4294967296; omega) | (dsimp only; omega) | (show (_ : Int) ≤ (_ : Int); omega) | (show _ < List.length _; simp only [List.length_set, List.length_append, List.length_take]; omega) | (show wantB _ _ = true; simp; done) | (show wantB _ _ = true; simp; omega) | (show (_ : Bool) = _; simp_all; done) | (exfalso; omega) | refine aRegion_auto (by decide +kernel) ?_ | fail))
  refine ⟨Nat × List P2, fun x => ⟨[(1, .ptr 0 0), (2, .ptr 1 0), (5, .ptr 3 0), (6, .ptr 5 0), (28, .fz int n), (29, .fz int x.1)], [bA, bR, .row int (lst n (P1 w h x.1)), .box [.ref 4 0 n, .ref 2 0 n, .nilSl], .row int (lst n (hts a)), .box [.ref 6 0 x.2.length], .row WT x.2]⟩,
    fun x => x.1 ≤ n ∧ HeapB x.2.length x.2 ∧ AllW x.2 ∧ x.2.Perm (WL x.1 (fun i => decide (rimN w h i)) (hts a)), fun x => n - x.1, (0, []), ⟨Nat.zero_le _, (fun i _ hi => absurd hi (Nat.not_lt_zero _) : HeapB 0 []), (fun p hp => absurd hp (by simp) : AllW []), List.Perm.refl _⟩, (Ent.nilBox 5 0 WT rfl rfl).trans (Ent.sub ?_ ?_), ?_⟩
  · show [bA, bR, .row int (List.replicate a.2.2.length 0), .box [.ref 4 0 a.2.2.length, .ref 2 0 a.2.2.length, .nilSl], .row int a.2.2, .box [.ref 6 0 0], .row WT []] = _
    have e : a.2.2 = lst n (hts a) := by rw [← hl]; exact lst_eq _
    rw [hl, lst_zero]
    (repeat' (first | exact rfl | refine cons_eq ?_ ?_))
    exact congrArg (AO.row int) e
  · (repeat' (first | exact trivial | exact rfl | refine And.intro ?_ ?_))
    exact congrArg (fun z : Nat => AV.fz int (z : Int)) hl
  · rintro ⟨k, xs⟩ ⟨hk, hh, ha, hp⟩
    simp only at hk hh ha hp
    have hT := lst_len n (P1 w h k)
    have hLn := lst_len n (hts a)
    have hxl : xs.length ≤ k := by rw [hp.length_eq]; exact WL_len
    (repeat' (first | exact trivial | exact fun h => h | refine And.intro ?_ ?_ | (intro hb; first | (simp at hb; done) | (simp at hb) | skip) | omega | exact rfl | exact Nat.le_refl _ | (show _ + 1 ≤ 4294967296; omega) | (dsimp only; omega) | (show (_ : Int) ≤ (_ : Int); omega) | (show _ < List.length _; simp only [List.length_set, List.length_append, List.length_take]; omega) | (show wantB _ _ = true; simp; done) | (show wantB _ _ = true; simp; omega) | (show (_ : Bool) = _; simp_all; done) | (exfalso; omega) | refine aRegion_auto (by decide +kernel) ?_ | fail))
    · have hkn : k < n := by assumption
      refine acall_conv [.dat RasT, .keep] _ _ _ rfl trivial (acall_frame0 rfl (rim_any _ a R k (by omega) _ ?_))
      (repeat' (first | exact trivial | exact fun h => h | refine And.intro ?_ ?_ | (intro hb; first | (simp at hb; done) | (simp at hb) | skip) | omega | exact rfl | exact Nat.le_refl _ | (show _ + 1 ≤ 4294967296; omega) | (dsimp only; omega) | (show (_ : Int) ≤ (_ : Int); omega) | (show _ < List.length _; simp only [List.length_set, List.length_append, List.length_take]; omega) | (show wantB _ _ = true; simp; done) | (show wantB _ _ = true; simp; omega) | (show (_ : Bool) = _; simp_all; done) | (exfalso; omega) | refine aRegion_auto (by decide +kernel) ?_ | fail))
      · have hbd := R.at k
        refine acall_frame [5, 6] (hA xs.length xs) [hI, agW (hts a k, (k : Int))] rfl ⟨⟨rfl, rfl⟩, ⟨rfl, trivial⟩, trivial⟩ ⟨rfl, rfl⟩ rfl (heapPush_any _ xs xs.length (hts a k, (k : Int)) (by omega) (Nat.le_refl _) hh ha ?_ _ fun ys e1 e2 e3 e4 => ?_)
        · exact ⟨hbd.1, hbd.2, by show (0 : Int) ≤ k; omega, by show (k : Int) < 65536; omega⟩
        (repeat' (first | exact trivial | exact fun h => h | refine And.intro ?_ ?_ | (intro hb; first | (simp at hb; done) | (simp at hb) | skip) | omega | exact rfl | exact Nat.le_refl _ | (show _ + 1 ≤ 4294967296; omega) | (dsimp only; omega) | (show (_ : Int) ≤ (_ : Int); omega) | (show _ < List.length _; simp only [List.length_set, List.length_append, List.length_take]; omega) | (show wantB _ _ = true; simp; done) | (show wantB _ _ = true; simp; omega) | (show (_ : Bool) = _; simp_all; done) | (exfalso; omega) | refine aRegion_auto (by decide +kernel) ?_ | fail))
        refine ⟨(k + 1, ys), ⟨by show k + 1 ≤ n; omega, by show HeapB ys.length ys; rw [e1]; exact e3, e4, ?_⟩, by show n - (k + 1) < n - k; omega, Ent.ren [0, 1, 2, 3, 4, 5, 7] rfl ?_ ?_⟩
        · rw [List.take_length] at e2
          show ys.Perm (WL (k + 1) _ _)
          rw [WL_succ, if_pos (by simpa using hb)]
          exact e2.trans (hp.append_right _)
        · (repeat' (first | exact trivial | exact rfl | refine And.intro ?_ ?_))
          · refine congrArg some (row_set2 (k := k) (f := P1 w h k) (g := P1 w h (k + 1)) 8 rfl fun i hi => ?_)
            unfold P1
            by_cases e : i = k
            · subst e; rw [if_pos rfl, if_pos (show i < i + 1 by omega), if_pos hb]
            · rw [if_neg e]; by_cases e2 : i < k
              · rw [if_pos e2, if_pos (show i < k + 1 by omega)]
              · rw [if_neg e2, if_neg (show ¬ i < k + 1 by omega)]
          · exact congrArg (fun z => some (AO.box [AV.ref 7 0 z])) (show xs.length + 1 = ys.length from e1.symm)
        · (repeat' (first | exact trivial | exact rfl | refine And.intro ?_ ?_))
      · refine ⟨(k + 1, xs), ⟨by show k + 1 ≤ n; omega, hh, ha, ?_⟩, by show n - (k + 1) < n - k; omega, Ent.sub ?_ ?_⟩
        · show xs.Perm (WL (k + 1) _ _)
          rw [WL_succ, if_neg (by simpa using hb), List.append_nil]
          exact hp
        · (repeat' (first | exact rfl | refine cons_eq ?_ ?_))
          · refine row_set1 (k := k) (f := P1 w h k) (g := P1 w h (k + 1)) (-1) rfl fun i hi => ?_
            unfold P1
            by_cases e : i = k
            · subst e; rw [if_pos rfl, if_pos (show i < i + 1 by omega), if_neg hb]
            · rw [if_neg e]; by_cases e2 : i < k
              · rw [if_pos e2, if_pos (show i < k + 1 by omega)]
              · rw [if_neg e2, if_neg (show ¬ i < k + 1 by omega)]
        · (repeat' (first | exact trivial | exact rfl | refine And.intro ?_ ?_))
    · have hk2 : k = n := by omega
      subst hk2
      (repeat' (first | exact trivial | exact fun h => h | refine And.intro ?_ ?_ | (intro hb; first | (simp at hb; done) | (simp at hb) | skip) | omega | exact rfl | exact Nat.le_refl _ | (show _ + 1 ≤ 4294967296; omega) | (dsimp only; omega) | (show (_ : Int) ≤ (_ : Int); omega) | (show _ < List.length _; simp only [List.length_set, List.length_append, List.length_take]; omega) | (show wantB _ _ = true; simp; done) | (show wantB _ _ = true; simp; omega) | (show (_ : Bool) = _; simp_all; done) | (exfalso; omega) | refine aRegion_auto (by decide +kernel) ?_ | fail))
      refine ⟨Nat × Nat × List P2, fun x => ⟨[(1, .ptr 0 0), (2, .ptr 1 0), (5, .ptr 3 0), (6, .ptr 5 0)], [bA, bR, .row int (lst k (floI w (flN w h (hts a) x.1))), .box [.ref 4 0 k, .ref 2 0 k, .ref 7 0 x.1], .row int (lst k (filI (hts a) (flN w h (hts a) x.1))), .box [.ref 6 0 x.2.1], .row WT x.2.2, .row int (natL (flN w h (hts a) x.1).ord)]⟩,
        fun x => x.1 ≤ k ∧ x.2.1 ≤ x.2.2.length ∧ HeapB x.2.1 x.2.2 ∧ AllW x.2.2 ∧ (x.2.2.take x.2.1).Perm (wts k (flN w h (hts a) x.1)), fun x => k - x.1, (0, xs.length, xs), ⟨Nat.zero_le _, Nat.le_refl _, hh, ha, ?_⟩, (Ent.nilBox 3 2 int rfl rfl).trans (Ent.sub ?_ ?_), ?_⟩
      · show (xs.take xs.length).Perm _
        rw [List.take_length]
        refine hp.trans (List.Perm.of_eq (WL_congr (fun i hi => ?_) (fun i hi hr => ?_)))
        · show decide (rimN w h i) = decide ((if rimN w h i then 1 else 0) = 1)
          by_cases e : rimN w h i <;> simp [e]
        · show hts a i = if rimN w h i then hts a i else 0
          rw [if_pos (by simpa using hr)]
      · (repeat' (first | exact rfl | refine cons_eq ?_ ?_))
        · refine row_lst fun i hi => ?_
          have e0 : (flN w h (hts a) 0).st i = if rimN w h i then 1 else 0 := rfl
          have e1 : (flN w h (hts a) 0).to i = i := rfl
          simp only [P1, floI, e0, e1, if_pos hi, way_self]
          by_cases e : rimN w h i <;> simp [e]
        · refine row_lst fun i hi => ?_
          have e0 : (flN w h (hts a) 0).st i = if rimN w h i then 1 else 0 := rfl
          have e1 : (flN w h (hts a) 0).fill i = if rimN w h i then hts a i else 0 := rfl
          simp only [filI, e0, e1]
          by_cases e : rimN w h i <;> simp [e]
      · (repeat' (first | exact trivial | exact rfl | refine And.intro ?_ ?_))
      clear hh ha hp hxl hT
      rintro ⟨j, m, xs⟩ ⟨hj, hm, hh, ha, hp⟩
      simp only at hj hm hh ha hp
      obtain ⟨I, hol⟩ := flN_ok w h (hts a) R.w0 j (by omega)
      have hol' := natL_len (flN w h (hts a) j).ord
      have hml : m ≤ k := by
        have := hp.length_eq
        rw [List.length_take, Nat.min_eq_left hm] at this
        rw [this]; exact WL_len
      have hT := lst_len k (floI w (flN w h (hts a) j))
      have hF := lst_len k (filI (hts a) (flN w h (hts a) j))
      cases m with
      | zero =>
        have hjk : j = k := by
          apply Decidable.byContradiction
          intro hne
          obtain ⟨b, hb1, hb2, hb3⟩ := @flN_best w h (hts a) R.w0 j (by omega)
          have hmem : ((flN w h (hts a) j).fill b, ((b : Nat) : Int)) ∈ wts k (flN w h (hts a) j) := WL_mem.2 ⟨b, by have := hb2.1; omega, by rw [hb2.2.1]; rfl, rfl⟩
          have := hp.mem_iff.2 hmem
          simp at this
        subst hjk
        have hOl : (natL (flN w h (hts a) j).ord).length = j := by rw [hol', hol]
        (repeat' (first | exact trivial | exact fun h => h | refine And.intro ?_ ?_ | (intro hb; first | (simp at hb; done) | (simp at hb) | skip) | omega | exact rfl | exact Nat.le_refl _ | (show _ + 1 ≤ 4294967296; omega) | (dsimp only; omega) | (show (_ : Int) ≤ (_ : Int); omega) | (show _ < List.length _; simp only [List.length_set, List.length_append, List.length_take]; omega) | (show wantB _ _ = true; simp; done) | (show wantB _ _ = true; simp; omega) | (show (_ : Bool) = _; simp_all; done) | (exfalso; omega) | refine aRegion_auto (by decide +kernel) ?_ | fail))
        refine ⟨_, _, (REnt.conv [.dat FT, .keep] _ rfl ?_).trans (REnt.drop ⟨rfl, rfl⟩), ?_⟩
        · exact ⟨by show 0 + j ≤ _; rw [hF]; omega, by show 0 + j ≤ _; rw [hT]; omega, by show 0 + j ≤ _; rw [hOl]; omega⟩
        · have hall := flD_all w h (hts a) R.w0
          refine (congrArg (fun x => K (.tup [.fz FT x, .fz .raw .nilIface]) []) (?_ : fResP w h a = (List.take j (List.drop 0 (lst j (filI (hts a) (flN w h (hts a) j)))), List.take j (List.drop 0 (lst j (floI w (flN w h (hts a) j)))), List.take j (List.drop 0 (natL (flN w h (hts a) j).ord))))).mp hK
          rw [List.drop_zero, List.drop_zero, List.drop_zero, List.take_of_length_le (by omega), List.take_of_length_le (by omega), List.take_of_length_le (by omega)]
          unfold fResP flD
          unfold flD at hall
          rw [← hn] at hall ⊢
          have e1 : lst j (fun i => wayN w i ((flN w h (hts a) j).to i)) = lst j (floI w (flN w h (hts a) j)) := lst_congr fun i hi => by
            unfold floI; rw [if_neg (by rw [hall i hi]; omega)]
          have e2 : lst j (flN w h (hts a) j).fill = lst j (filI (hts a) (flN w h (hts a) j)) := lst_congr fun i hi => by
            unfold filI; rw [if_neg (by rw [hall i hi]; omega)]
          rw [e1, e2]
      | succ m =>
        have hjk : j < k := by
          apply Decidable.byContradiction
          intro hne
          have : j = k := by omega
          subst this
          have hall := flD_all w h (hts a) R.w0
          have hlen := hp.length_eq
          rw [List.length_take, Nat.min_eq_left hm] at hlen
          have : wts j (flN w h (hts a) j) = [] := by
            rw [List.eq_nil_iff_forall_not_mem]
            intro x hx
            obtain ⟨i, h1, h2, _⟩ := WL_mem.1 hx
            have h3 := hall i (by omega)
            unfold flD at h3
            rw [← hn] at h3
            rw [h3] at h2; simp at h2
          rw [this] at hlen; simp at hlen
        obtain ⟨b, hb1, hb2, hb3⟩ := @flN_best w h (hts a) R.w0 j (by omega)
        (repeat' (first | exact trivial | exact fun h => h | refine And.intro ?_ ?_ | (intro hb; first | (simp at hb; done) | (simp at hb) | skip) | omega | exact rfl | exact Nat.le_refl _ | (show _ + 1 ≤ 4294967296; omega) | (dsimp only; omega) | (show (_ : Int) ≤ (_ : Int); omega) | (show _ < List.length _; simp only [List.length_set, List.length_append, List.length_take]; omega) | (show wantB _ _ = true; simp; done) | (show wantB _ _ = true; simp; omega) | (show (_ : Bool) = _; simp_all; done) | (exfalso; omega) | refine aRegion_auto (by decide +kernel) ?_ | fail))
        refine acall_frame [5, 6] (hA (m + 1) xs) [hI] rfl ⟨⟨rfl, rfl⟩, ⟨rfl, trivial⟩, trivial⟩ ⟨rfl, rfl⟩ rfl (heapPop_any _ xs m (by omega) hm hh ha _ fun ys e1 e2 e3 e4 e5 => ?_)
        obtain ⟨hbk, hbs, _⟩ := id hb2
        rw [← hn] at hb2
        have hbn : b < k := by omega
        have tk : ys.take (m + 1) = ys.take m ++ [at2 ys m] := by
          rw [List.take_succ_eq_append_getElem (by omega)]
          simp [at2, List.getD, show m < ys.length by omega]
        have hpy : (ys.take m ++ [at2 ys m]).Perm (wts k (flN w h (hts a) j)) := by rw [← tk]; exact e2.trans hp
        have xm : at2 ys m = ((flN w h (hts a) j).fill b, ((b : Nat) : Int)) := by
          obtain ⟨i, h1, h2, h3⟩ := WL_mem.1 (hpy.mem_iff.1 (by simp : at2 ys m ∈ ys.take m ++ [at2 ys m]))
          have h2 : (flN w h (hts a) j).st i = 1 := by simpa using h2
          have hmem : ((flN w h (hts a) j).fill b, ((b : Nat) : Int)) ∈ ys.take m ++ [at2 ys m] := hpy.mem_iff.2 (WL_mem.2 ⟨b, hbn, by rw [hbs]; rfl, rfl⟩)
          have hkey : key (at2 ys m) ≤ key ((flN w h (hts a) j).fill b, ((b : Nat) : Int)) := by
            rcases List.mem_append.1 hmem with hmem | hmem
            · obtain ⟨k', hk', he⟩ := List.getElem_of_mem hmem
              have hk2 : k' < m := by simp at hk'; omega
              have hky : key (at2 ys m) ≤ key (at2 ys k') := e5 k' hk2
              have e : at2 ys k' = ((flN w h (hts a) j).fill b, ((b : Nat) : Int)) := by
                rw [← he]; simp [at2, List.getD, show k' < ys.length by omega]
              rw [e] at hky; exact hky
            · simp at hmem; rw [hmem]; exact Int.le_refl _
          rw [h3] at hkey ⊢
          have hib := best_key (w := w) (h := h) (by omega) (by rw [hn] at hb2; exact hb2) (by omega) h2 hkey
          rw [hib]
        have hp0 : (ys.take m).Perm (wts k (flQ w h (hts a) (flN w h (hts a) j) b 0)) := by
          have h1 := wts_take (w := w) (h := h) (L := hts a) (S := (flN w h (hts a) j)) (b := b) (by omega) hbs
          rw [← hn] at h1
          rw [xm] at hpy
          exact List.perm_append_right_iff _ |>.1 (hpy.trans h1)
        have hbW := e4.at m
        rw [xm] at hbW ⊢
        have hmy : m ≤ ys.length := by omega
        clear hp e2 e5 hpy tk ha hh hm
        have hOl : (natL (flN w h (hts a) j).ord).length = j := by rw [hol', hol]
        (repeat' (first | exact trivial | exact fun h => h | refine And.intro ?_ ?_ | (intro hb; first | (simp at hb; done) | (simp at hb) | skip) | omega | exact rfl | exact Nat.le_refl _ | (show _ + 1 ≤ 4294967296; omega) | (dsimp only; omega) | (show (_ : Int) ≤ (_ : Int); omega) | (show _ < List.length _; simp only [List.length_set, List.length_append, List.length_take]; omega) | (show wantB _ _ = true; simp; done) | (show wantB _ _ = true; simp; omega) | (show (_ : Bool) = _; simp_all; done) | (exfalso; omega) | refine aRegion_auto (by decide +kernel) ?_ | fail))
        refine ⟨Nat × Nat × List P2, fun x => ⟨[(1, .ptr 0 0), (2, .ptr 1 0), (5, .ptr 3 0), (6, .ptr 5 0), (8, .ptr 8 0), (67, .fz int x.1)], [bA, bR, .row int (lst k (floI w (flQ w h (hts a) (flN w h (hts a) j) b x.1))), .box [.ref 4 0 k, .ref 2 0 k, .ref 7 0 (j + 1)], .row int (lst k (filI (hts a) (flQ w h (hts a) (flN w h (hts a) j) b x.1))), .box [.ref 6 0 x.2.1], .row WT x.2.2, .row int (natL ((flN w h (hts a) j).ord ++ [b])), .box [.fz int ((flN w h (hts a) j).fill b), .fz int b]]⟩,
          fun x => x.1 ≤ 8 ∧ x.2.1 ≤ x.2.2.length ∧ HeapB x.2.1 x.2.2 ∧ AllW x.2.2 ∧ (x.2.2.take x.2.1).Perm (wts k (flQ w h (hts a) (flN w h (hts a) j) b x.1)), fun x => 8 - x.1, (0, m, ys), ⟨Nat.zero_le _, hmy, e3, e4, hp0⟩, Ent.ren [0, 1, 2, 3, 4, 5, 6, 10, 8] rfl ?_ ?_, ?_⟩
        · (repeat' (first | exact trivial | exact rfl | refine And.intro ?_ ?_))
          · refine congrArg some (row_lst fun i hi => ?_)
            unfold floI; rw [flQ_st, flQ_to, show visB w h b 0 i = false from rfl]
            by_cases hib : i = b
            · subst hib; simp [hbs]
            · simp [hib]
          · refine congrArg some (row_lst fun i hi => ?_)
            unfold filI; rw [flQ_st, flQ_fill, show visB w h b 0 i = false from rfl]
            by_cases hib : i = b
            · subst hib; simp [hbs]
            · simp [hib]
          · refine congrArg (fun l => some (AO.row int l)) (?_ : List.take j (natL (flN w h (hts a) j).ord) ++ [(b : Int)] = natL ((flN w h (hts a) j).ord ++ [b]))
            rw [List.take_of_length_le (by omega)]
            simp [natL]
        · (repeat' (first | exact trivial | exact rfl | refine And.intro ?_ ?_))
        clear xm e1 e3 e4 hp0 hmy ys
        rintro ⟨q, m, ys⟩ ⟨hq, hm, hh, ha, hp⟩
        simp only at hq hm hh ha hp
        have hT := lst_len k (floI w (flQ w h (hts a) (flN w h (hts a) j) b q))
        have hF := lst_len k (filI (hts a) (flQ w h (hts a) (flN w h (hts a) j) b q))
        have hml : m ≤ k := by
          have := hp.length_eq
          rw [List.length_take, Nat.min_eq_left hm] at this
          rw [this]; exact WL_len
        by_cases hq8 : q < 8
        · have skip : (∀ t, nbN w h b q = some t → (flQ w h (hts a) (flN w h (hts a) j) b q).st t ≠ 0) → lst k (floI w (flQ w h (hts a) (flN w h (hts a) j) b q)) = lst k (floI w (flQ w h (hts a) (flN w h (hts a) j) b (q + 1))) ∧ lst k (filI (hts a) (flQ w h (hts a) (flN w h (hts a) j) b q)) = lst k (filI (hts a) (flQ w h (hts a) (flN w h (hts a) j) b (q + 1))) ∧ wts k (flQ w h (hts a) (flN w h (hts a) j) b q) = wts k (flQ w h (hts a) (flN w h (hts a) j) b (q + 1)) := fun h0 =>
            rows_eq fun i hi => by obtain ⟨x1, x2, x3⟩ := flQ_skip (L := hts a) hbs h0 i; exact ⟨x1.symm, x2.symm, x3.symm⟩
          (repeat' (first | exact trivial | exact fun h => h | refine And.intro ?_ ?_ | (intro hb; first | (simp at hb; done) | (simp at hb) | skip) | omega | exact rfl | exact Nat.le_refl _ | (show _ + 1 ≤ 4294967296; omega) | (dsimp only; omega) | (show (_ : Int) ≤ (_ : Int); omega) | (show _ < List.length _; simp only [List.length_set, List.length_append, List.length_take]; omega) | (show wantB _ _ = true; simp; done) | (show wantB _ _ = true; simp; omega) | (show (_ : Bool) = _; simp_all; done) | (exfalso; omega) | refine aRegion_auto (by decide +kernel) ?_ | fail))
          refine acall_conv [.dat RasT, .keep, .keep] _ _ _ rfl trivial (acall_frame0 rfl (neighbour_any _ a R b q (by omega) hq8 _ (fun u hu => ?_) (fun hnone => ?_)))
          · have hun : u < k := by have := (nb_cell (by omega) hu).1; omega
            have g1 : (lst k (floI w (flQ w h (hts a) (flN w h (hts a) j) b q)))[u]?.getD int.dft = floI w (flQ w h (hts a) (flN w h (hts a) j) b q) u := lst_get _ hun
            have g2 := flo_nn (q := q) I (b := b) (by omega) hbs (by omega) (i := u) (by omega)
            have hLu : u < a.2.2.length := by omega
            have pv : ∀ v, List.getD (List.set (lst k (filI (hts a) (flQ w h (hts a) (flN w h (hts a) j) b q))) (0 + Int.toNat (u : Int)) v) (0 + Int.toNat (u : Int)) int.dft = v := fun v => by
              rw [Nat.zero_add, Int.toNat_natCast, List.getD_eq_getElem?_getD, List.getElem?_set_self (by omega)]; rfl
            (repeat' (first | exact trivial | exact fun h => h | refine And.intro ?_ ?_ | (intro hb; first | (simp at hb; done) | (simp at hb) | skip) | omega | exact rfl | exact Nat.le_refl _ | (show _ + 1 ≤ 4294967296; omega) | (dsimp only; omega) | (show (_ : Int) ≤ (_ : Int); omega) | (show _ < List.length _; simp only [List.length_set, List.length_append, List.length_take]; omega) | (show wantB _ _ = true; simp; done) | (show wantB _ _ = true; simp; omega) | (show (_ : Bool) = _; simp_all; done) | (exfalso; omega) | refine aRegion_auto (by decide +kernel) ?_ | fail))
            · obtain ⟨s1, s2, s3⟩ := skip (fun t ht => by rw [hu] at ht; cases ht; exact g2.1 (by omega))
              refine ⟨(q + 1, m, ys), ⟨by show q + 1 ≤ 8; omega, hm, hh, ha, by rw [← s3]; exact hp⟩, by show 8 - (q + 1) < 8 - q; omega, Ent.sub ?_ ?_⟩
              · show [bA, bR, .row int (lst k (floI w (flQ w h (hts a) (flN w h (hts a) j) b q))), .box [.ref 4 0 k, .ref 2 0 k, .ref 7 0 (j + 1)], .row int (lst k (filI (hts a) (flQ w h (hts a) (flN w h (hts a) j) b q))), _, _, _, _] = [bA, bR, .row int (lst k (floI w (flQ w h (hts a) (flN w h (hts a) j) b (q + 1)))), .box [.ref 4 0 k, .ref 2 0 k, .ref 7 0 (j + 1)], .row int (lst k (filI (hts a) (flQ w h (hts a) (flN w h (hts a) j) b (q + 1)))), _, _, _, _]
                rw [s1, s2]
              · (repeat' (first | exact trivial | exact rfl | refine And.intro ?_ ?_))
            · have hst0 : (flQ w h (hts a) (flN w h (hts a) j) b q).st u = 0 := by
                apply Decidable.byContradiction
                intro hne
                have := g2.2 hne
                omega
              have hrow := rows_new (w := w) (h := h) (L := hts a) (S := (flN w h (hts a) j)) (b := b) (q := q) (by omega) hbs hq8 hu hst0
              have hwn := wts_new (w := w) (h := h) (L := hts a) (S := (flN w h (hts a) j)) (b := b) (q := q) (by omega) hbs hq8 hu hst0
              rw [← hn] at hwn
              have hub := R.at u
              (apply exEff; focus (repeat' (first | exact ⟨rfl, rfl⟩ | exact trivial | refine And.intro ?_ ?_ | omega | exact Nat.le_refl _ | (show _ + 1 ≤ 4294967296; omega))))
              (repeat' (first | exact trivial | exact fun h => h | refine And.intro ?_ ?_ | (intro hb; first | (simp at hb; done) | (simp at hb) | skip) | omega | exact rfl | exact Nat.le_refl _ | (show _ + 1 ≤ 4294967296; omega) | (dsimp only; omega) | (show (_ : Int) ≤ (_ : Int); omega) | (show _ < List.length _; simp only [List.length_set, List.length_append, List.length_take]; omega) | (show wantB _ _ = true; simp; done) | (show wantB _ _ = true; simp; omega) | (show (_ : Bool) = _; simp_all; done) | (exfalso; omega) | refine aRegion_auto (by decide +kernel) ?_ | fail))
              refine acall_frame [5, 6] (hA m ys) [hI, agW (max (hts a u) ((flN w h (hts a) j).fill b), (u : Int))] rfl ⟨⟨rfl, rfl⟩, ⟨rfl, trivial⟩, trivial⟩ ⟨rfl, rfl⟩ ?_ (heapPush_any _ ys m (max (hts a u) ((flN w h (hts a) j).fill b), (u : Int)) (by omega) hm hh ha ?_ _ fun zs e1 e2 e3 e4 => ?_)
              · exact congrArg (fun z => [AV.ifc 94 (.ptr 5 0), .ifc 96 (.agg [.fz int z, .fz int u])]) (pv _)
              · unfold okW at hbW ⊢
                simp only at hbW ⊢
                have : hts a u = a.2.2.getD u 0 := rfl
                omega
              · (repeat' (first | exact trivial | exact fun h => h | refine And.intro ?_ ?_ | (intro hb; first | (simp at hb; done) | (simp at hb) | skip) | omega | exact rfl | exact Nat.le_refl _ | (show _ + 1 ≤ 4294967296; omega) | (dsimp only; omega) | (show (_ : Int) ≤ (_ : Int); omega) | (show _ < List.length _; simp only [List.length_set, List.length_append, List.length_take]; omega) | (show wantB _ _ = true; simp; done) | (show wantB _ _ = true; simp; omega) | (show (_ : Bool) = _; simp_all; done) | (exfalso; omega) | refine aRegion_auto (by decide +kernel) ?_ | fail))
                refine ⟨(q + 1, m + 1, zs), ⟨by show q + 1 ≤ 8; omega, by show m + 1 ≤ zs.length; omega, e3, e4, ?_⟩, by show 8 - (q + 1) < 8 - q; omega, Ent.ren [0, 1, 2, 3, 4, 5, 9, 7, 8] rfl ?_ ?_⟩
                · show (zs.take (m + 1)).Perm _
                  rw [List.take_of_length_le (by omega)]
                  exact (e2.trans (hp.append_right _)).trans hwn.symm
                · (repeat' (first | exact trivial | exact rfl | refine And.intro ?_ ?_))
                  · refine congrArg some (row_set1 (k := u) (f := floI w (flQ w h (hts a) (flN w h (hts a) j) b q)) (g := floI w (flQ w h (hts a) (flN w h (hts a) j) b (q + 1))) (((q : Int) + 4) % 8) ?_ fun i hi => (hrow i).1)
                    exact (show Int.tmod ((q : Int) + 4) 8 = ((q : Int) + 4) % 8 from Int.tmod_eq_emod_of_nonneg (by omega))
                  · exact congrArg some (row_set1 (k := u) (f := filI (hts a) (flQ w h (hts a) (flN w h (hts a) j) b q)) (g := filI (hts a) (flQ w h (hts a) (flN w h (hts a) j) b (q + 1))) (max (hts a u) ((flN w h (hts a) j).fill b)) rfl fun i hi => (hrow i).2)
                · (repeat' (first | exact trivial | exact rfl | refine And.intro ?_ ?_))
          · obtain ⟨s1, s2, s3⟩ := skip (fun t ht => by rw [hnone] at ht; cases ht)
            (repeat' (first | exact trivial | exact fun h => h | refine And.intro ?_ ?_ | (intro hb; first | (simp at hb; done) | (simp at hb) | skip) | omega | exact rfl | exact Nat.le_refl _ | (show _ + 1 ≤ 4294967296; omega) | (dsimp only; omega) | (show (_ : Int) ≤ (_ : Int); omega) | (show _ < List.length _; simp only [List.length_set, List.length_append, List.length_take]; omega) | (show wantB _ _ = true; simp; done) | (show wantB _ _ = true; simp; omega) | (show (_ : Bool) = _; simp_all; done) | (exfalso; omega) | refine aRegion_auto (by decide +kernel) ?_ | fail))
            refine ⟨(q + 1, m, ys), ⟨by show q + 1 ≤ 8; omega, hm, hh, ha, by rw [← s3]; exact hp⟩, by show 8 - (q + 1) < 8 - q; omega, Ent.sub ?_ ?_⟩
            · show [bA, bR, .row int (lst k (floI w (flQ w h (hts a) (flN w h (hts a) j) b q))), .box [.ref 4 0 k, .ref 2 0 k, .ref 7 0 (j + 1)], .row int (lst k (filI (hts a) (flQ w h (hts a) (flN w h (hts a) j) b q))), _, _, _, _] = [bA, bR, .row int (lst k (floI w (flQ w h (hts a) (flN w h (hts a) j) b (q + 1)))), .box [.ref 4 0 k, .ref 2 0 k, .ref 7 0 (j + 1)], .row int (lst k (filI (hts a) (flQ w h (hts a) (flN w h (hts a) j) b (q + 1)))), _, _, _, _]
              rw [s1, s2]
            · (repeat' (first | exact trivial | exact rfl | refine And.intro ?_ ?_))
        · have hq8 : q = 8 := by omega
          subst hq8
          (repeat' (first | exact trivial | exact fun h => h | refine And.intro ?_ ?_ | (intro hb; first | (simp at hb; done) | (simp at hb) | skip) | omega | exact rfl | exact Nat.le_refl _ | (show _ + 1 ≤ 4294967296; omega) | (dsimp only; omega) | (show (_ : Int) ≤ (_ : Int); omega) | (show _ < List.length _; simp only [List.length_set, List.length_append, List.length_take]; omega) | (show wantB _ _ = true; simp; done) | (show wantB _ _ = true; simp; omega) | (show (_ : Bool) = _; simp_all; done) | (exfalso; omega) | refine aRegion_auto (by decide +kernel) ?_ | fail))
          have hfin := fun i (hi : i < k) => flQ_end (w := w) (h := h) (L := hts a) (S := (flN w h (hts a) j)) (b := b) (by omega) (i := i) (by omega)
          obtain ⟨s1, s2, s3⟩ := rows_eq (w := w) (L := hts a) (n := k) hfin
          refine ⟨(j + 1, m, ys), ⟨by show j + 1 ≤ k; omega, hm, hh, ha, by show (ys.take m).Perm (wts k (flN w h (hts a) (j + 1))); rw [hb3, ← s3]; exact hp⟩, by show k - (j + 1) < k - j; omega, Ent.ren [0, 1, 2, 3, 4, 5, 6, 7] rfl ?_ ?_⟩
          · (repeat' (first | exact trivial | exact rfl | refine And.intro ?_ ?_))
            · refine congrArg (fun l => some (AO.row int l)) (?_ : lst k (floI w (flQ w h (hts a) (flN w h (hts a) j) b 8)) = lst k (floI w (flN w h (hts a) (j + 1))))
              rw [hb3]; exact s1
            · refine congrArg (fun l => some (AO.row int l)) (?_ : lst k (filI (hts a) (flQ w h (hts a) (flN w h (hts a) j) b 8)) = lst k (filI (hts a) (flN w h (hts a) (j + 1))))
              rw [hb3]; exact s2
            · refine congrArg (fun l => some (AO.row int l)) (?_ : natL ((flN w h (hts a) j).ord ++ [b]) = natL (flN w h (hts a) (j + 1)).ord)
              rw [hb3]; rfl
          · (repeat' (first | exact trivial | exact rfl | refine And.intro ?_ ?_))
theorem flood_oneE (E : Errs) (a : Ras) (hl : a.2.2.length ≤ 1000000000000) (K : AV → List AO → Prop) (hK : K (.tup [.fz FT (flP a), .fz .raw (er E (rerr a))]) []) :
    ACall Tryd.prog (GE E) 37 [.fz RasT a] [] K := by
  unfold flP at hK
  by_cases hv : rerr a = 0
  · rw [if_pos hv, hv] at hK
    exact flood_okE E a hv (RasN.mk' hv) K hK
  · rw [if_neg hv] at hK
    have h4 := rerr_in a
    refine acall_mk (E := envAt (GE E) 119 0) (envOk _ _ _) Tryd.func37 rfl rfl rfl rfl rfl ?_
    (repeat' (first | exact trivial | exact fun h => h | refine And.intro ?_ ?_ | (intro hb; first | (simp at hb; done) | (simp at hb) | skip) | omega | exact rfl | exact Nat.le_refl _ | (show _ + 1 ≤ 4294967296; omega) | (dsimp only; omega) | (show (_ : Int) ≤ (_ : Int); omega) | (show _ < List.length _; simp only [List.length_set, List.length_append, List.length_take]; omega) | (show wantB _ _ = true; simp; done) | (show wantB _ _ = true; simp; omega) | (show (_ : Bool) = _; simp_all; done) | (exfalso; omega) | fail))
    refine acall_conv [.dat RasT] _ _ _ rfl trivial (acall_frame0 rfl (valid1E E a hl _ ?_))
    obtain h | h | h | h : rerr a = 1 ∨ rerr a = 2 ∨ rerr a = 3 ∨ rerr a = 4 := by omega
    all_goals
      rw [h] at hK ⊢
      (repeat' (first | exact trivial | exact fun h => h | refine And.intro ?_ ?_ | (intro hb; first | (simp at hb; done) | (simp at hb) | skip) | omega | exact rfl | exact Nat.le_refl _ | (show _ + 1 ≤ 4294967296; omega) | (dsimp only; omega) | (show (_ : Int) ≤ (_ : Int); omega) | (show _ < List.length _; simp only [List.length_set, List.length_append, List.length_take]; omega) | (show wantB _ _ = true; simp; done) | (show wantB _ _ = true; simp; omega) | (show (_ : Bool) = _; simp_all; done) | (exfalso; omega) | fail))
      refine ⟨_, _, (REnt.conv [.dat FT, .keep] _ rfl trivial).trans (REnt.drop ⟨rfl, rfl⟩), ?_⟩
      exact hK
theorem fill_oneE (E : Errs) (a : Ras) (hl : a.2.2.length ≤ 1000000000000) (K : AV → List AO → Prop) (hK : K (.tup [.fz RasT (fillQ a), .fz .raw (er E (rerr a))]) []) :
    ACall Tryd.prog (GE E) 12 [.fz RasT a] [] K := by
  unfold fillQ at hK
  have h4 := rerr_in a
  refine acall_mk (E := envAt (GE E) 22 0) (envOk _ _ _) Tryd.func12 rfl rfl rfl rfl rfl ?_
  (repeat' (first | exact trivial | exact fun h => h | refine And.intro ?_ ?_ | (intro hb; first | (simp at hb; done) | (simp at hb) | skip) | omega | exact rfl | exact Nat.le_refl _ | (show _ + 1 ≤ 4294967296; omega) | (dsimp only; omega) | (show (_ : Int) ≤ (_ : Int); omega) | (show _ < List.length _; simp only [List.length_set, List.length_append, List.length_take]; omega) | (show wantB _ _ = true; simp; done) | (show wantB _ _ = true; simp; omega) | (show (_ : Bool) = _; simp_all; done) | (exfalso; omega) | fail))
  refine acall_conv [.dat RasT] _ _ _ rfl trivial (acall_frame0 rfl (flood_oneE E a hl _ ?_))
  obtain h | h | h | h | h : rerr a = 0 ∨ rerr a = 1 ∨ rerr a = 2 ∨ rerr a = 3 ∨ rerr a = 4 := by omega
  all_goals
    rw [h] at hK ⊢
    (repeat' (first | exact trivial | exact fun h => h | refine And.intro ?_ ?_ | (intro hb; first | (simp at hb; done) | (simp at hb) | skip) | omega | exact rfl | exact Nat.le_refl _ | (show _ + 1 ≤ 4294967296; omega) | (dsimp only; omega) | (show (_ : Int) ≤ (_ : Int); omega) | (show _ < List.length _; simp only [List.length_set, List.length_append, List.length_take]; omega) | (show wantB _ _ = true; simp; done) | (show wantB _ _ = true; simp; omega) | (show (_ : Bool) = _; simp_all; done) | (exfalso; omega) | fail))
    refine ⟨_, _, (REnt.conv [.dat RasT, .keep] _ rfl trivial).trans (REnt.drop ⟨rfl, rfl⟩), ?_⟩
    exact hK
theorem flow_oneE (E : Errs) (a : Ras) (hl : a.2.2.length ≤ 1000000000000) (K : AV → List AO → Prop) (hK : K (.tup [.fz (.list int) (flP a).2.1, .fz .raw (er E (rerr a))]) []) :
    ACall Tryd.prog (GE E) 18 [.fz RasT a] [] K := by
  refine acall_mk (E := envAt (GE E) 14 0) (envOk _ _ _) Tryd.func18 rfl rfl rfl rfl rfl ?_
  (repeat' (first | exact trivial | exact fun h => h | refine And.intro ?_ ?_ | (intro hb; first | (simp at hb; done) | (simp at hb) | skip) | omega | exact rfl | exact Nat.le_refl _ | (show _ + 1 ≤ 4294967296; omega) | (dsimp only; omega) | (show (_ : Int) ≤ (_ : Int); omega) | (show _ < List.length _; simp only [List.length_set, List.length_append, List.length_take]; omega) | (show wantB _ _ = true; simp; done) | (show wantB _ _ = true; simp; omega) | (show (_ : Bool) = _; simp_all; done) | (exfalso; omega) | fail))
  refine acall_conv [.dat RasT] _ _ _ rfl trivial (acall_frame0 rfl (flood_oneE E a hl _ ?_))
  (repeat' (first | exact trivial | exact fun h => h | refine And.intro ?_ ?_ | (intro hb; first | (simp at hb; done) | (simp at hb) | skip) | omega | exact rfl | exact Nat.le_refl _ | (show _ + 1 ≤ 4294967296; omega) | (dsimp only; omega) | (show (_ : Int) ≤ (_ : Int); omega) | (show _ < List.length _; simp only [List.length_set, List.length_append, List.length_take]; omega) | (show wantB _ _ = true; simp; done) | (show wantB _ _ = true; simp; omega) | (show (_ : Bool) = _; simp_all; done) | (exfalso; omega) | fail))
  refine ⟨_, _, REnt.drop ⟨rfl, rfl⟩, ?_⟩
  exact hK
theorem drains_anyE (E : Errs) (K : AV → List AO → Prop) (hK : K (.fz .bool true) []) : ACall Tryd.prog (GE E) 9 [] [] K := by
  obtain ⟨h4, h0, hl⟩ := a9_4
  refine acall_mk (E := envAt (GE E) 28 0) (envOk _ _ _) Tryd.func9 rfl rfl rfl rfl rfl ?_
  (repeat' (first | exact trivial | exact fun h => h | refine And.intro ?_ ?_ | (intro hb; first | (simp at hb; done) | (simp at hb) | skip) | omega | exact rfl | exact Nat.le_refl _ | (show _ + 1 ≤ 4294967296; omega) | (dsimp only; omega) | (show (_ : Int) ≤ (_ : Int); omega) | (show _ < List.length _; simp only [List.length_set, List.length_append, List.length_take]; omega) | (show wantB _ _ = true; simp; done) | (show wantB _ _ = true; simp; omega) | (show (_ : Bool) = _; simp_all; done) | (exfalso; omega) | fail))
  refine acall_conv [.dat RasT] _ _ _ rfl ?_ (acall_frame0 rfl (flow_oneE E a9 (by decide) _ ?_))
  · (repeat' (first | exact trivial | refine And.intro ?_ ?_ | (show _ ≤ _; omega) | (show _ ≤ _; simp; done)))
  rw [a9_ok]
  have h4' : List.getD (flP a9).2.1 (Int.toNat 4) int.dft = 0 := h4
  have h0' : List.getD (flP a9).2.1 (Int.toNat 0) int.dft = 8 := h0
  generalize (flP a9).2.1 = l at *
  (repeat' (first | exact trivial | exact fun h => h | refine And.intro ?_ ?_ | (intro hb; first | (simp at hb; done) | (simp at hb) | skip) | omega | exact rfl | exact Nat.le_refl _ | (show _ + 1 ≤ 4294967296; omega) | (dsimp only; omega) | (show (_ : Int) ≤ (_ : Int); omega) | (show _ < List.length _; simp only [List.length_set, List.length_append, List.length_take]; omega) | (show wantB _ _ = true; simp; done) | (show wantB _ _ = true; simp; omega) | (show (_ : Bool) = _; simp_all; done) | (exfalso; omega) | fail))
  refine ⟨_, _, REnt.drop ⟨rfl, rfl⟩, ?_⟩
  refine kbl hK ?_
  rw [h4', h0', hl]
  rfl
theorem gather_oneE (E : Errs) (a : Ras) (rain : List Int) (hl : a.2.2.length ≤ 1000000000000) (hrl : rain.length ≤ 1000000000000) (K : AV → List AO → Prop) (hK : K (.tup [.fz (.list int) (gaQ a rain), .fz .raw (er E (gaE a rain))]) []) :
    ACall Tryd.prog (GE E) 13 [.fz RasT a, .fz (.list int) rain] [] K := by
  by_cases hv : rerr a = 0
  · have R := RasN.mk' hv
    have F := flowN a.1.toNat a.2.1.toNat (hts a) R.w0
    have eF : flP a = fResP a.1.toNat a.2.1.toNat a := by unfold flP; rw [if_pos hv]
    have hln := R.len
    refine acall_mk (E := envAt (GE E) 31 0) (envOk _ _ _) Tryd.func13 rfl rfl rfl rfl rfl ?_
    (repeat' (first | exact trivial | exact fun h => h | refine And.intro ?_ ?_ | (intro hb; first | (simp at hb; done) | (simp at hb) | skip) | omega | exact rfl | exact Nat.le_refl _ | (show _ + 1 ≤ 4294967296; omega) | (dsimp only; omega) | (show (_ : Int) ≤ (_ : Int); omega) | (show _ < List.length _; simp only [List.length_set, List.length_append, List.length_take]; omega) | (show wantB _ _ = true; simp; done) | (show wantB _ _ = true; simp; omega) | (show (_ : Bool) = _; simp_all; done) | (exfalso; omega) | fail))
    refine acall_conv [.dat RasT] _ _ _ rfl trivial (acall_frame0 rfl (flood_oneE E a hl _ ?_))
    rw [hv, eF]
    by_cases hlen : rain.length = a.2.2.length
    · (repeat' (first | exact trivial | exact fun h => h | refine And.intro ?_ ?_ | (intro hb; first | (simp at hb; done) | (simp at hb) | skip) | omega | exact rfl | exact Nat.le_refl _ | (show _ + 1 ≤ 4294967296; omega) | (dsimp only; omega) | (show (_ : Int) ≤ (_ : Int); omega) | (show _ < List.length _; simp only [List.length_set, List.length_append, List.length_take]; omega) | (show wantB _ _ = true; simp; done) | (show wantB _ _ = true; simp; omega) | (show (_ : Bool) = _; simp_all; done) | (exfalso; omega) | fail))
      refine acall_frame0 rfl (containsFunc_any _ rain _ badB (gather1_any _) hrl _ ?_)
      cases hany : rain.any badB with
      | true =>
        have e1 : gaE a rain = 3 := by unfold gaE; rw [if_pos hv, if_pos (.inr hany)]
        have e2 : gaQ a rain = [] := by unfold gaQ; rw [e1, if_neg (by omega)]
        rw [e1, e2] at hK
        (repeat' (first | exact trivial | exact fun h => h | refine And.intro ?_ ?_ | (intro hb; first | (simp at hb; done) | (simp at hb) | skip) | omega | exact rfl | exact Nat.le_refl _ | (show _ + 1 ≤ 4294967296; omega) | (dsimp only; omega) | (show (_ : Int) ≤ (_ : Int); omega) | (show _ < List.length _; simp only [List.length_set, List.length_append, List.length_take]; omega) | (show wantB _ _ = true; simp; done) | (show wantB _ _ = true; simp; omega) | (show (_ : Bool) = _; simp_all; done) | (exfalso; omega) | refine aRegion_auto (by decide +kernel) ?_ | fail))
        refine ⟨_, _, (REnt.conv [.dat (.list int), .keep] _ rfl trivial).trans (REnt.drop ⟨rfl, rfl⟩), ?_⟩
        exact hK
      | false =>
        have e1 : gaE a rain = 0 := by unfold gaE; rw [if_pos hv, if_neg (by rw [hany]; simp [hlen])]
        have e2 : gaQ a rain = lst (a.1.toNat * a.2.1.toNat) (gaN (flD a.1.toNat a.2.1.toNat (hts a)).to (flD a.1.toNat a.2.1.toNat (hts a)).ord (fun i => rain.getD i 0) (a.1.toNat * a.2.1.toNat)) := by unfold gaQ; rw [if_pos e1]
        rw [e1, e2] at hK
        have hr : ∀ u, u < a.1.toNat * a.2.1.toNat → 0 ≤ rain.getD u 0 ∧ rain.getD u 0 ≤ 1048576 := fun u hu => by
          refine badB_no ?_
          have hu' : u < rain.length := by omega
          have := List.any_eq_false.1 hany (rain[u]) (List.getElem_mem hu')
          rw [List.getD_eq_getElem?_getD, List.getElem?_eq_getElem hu']
          simpa using this
        have eR : rain = lst (a.1.toNat * a.2.1.toNat) (fun i => rain.getD i 0) := by rw [← hln, ← hlen]; exact (lst_of rain).symm
        (repeat' (first | exact trivial | exact fun h => h | refine And.intro ?_ ?_ | (intro hb; first | (simp at hb; done) | (simp at hb) | skip) | omega | exact rfl | exact Nat.le_refl _ | (show _ + 1 ≤ 4294967296; omega) | (dsimp only; omega) | (show (_ : Int) ≤ (_ : Int); omega) | (show _ < List.length _; simp only [List.length_set, List.length_append, List.length_take]; omega) | (show wantB _ _ = true; simp; done) | (show wantB _ _ = true; simp; omega) | (show (_ : Bool) = _; simp_all; done) | (exfalso; omega) | fail))
        refine acall_conv [.dat RasT, .dat FT, .keep] _ _ _ rfl ?_ (acall_frame0 rfl (acall_arg (gather_any _ a R F (lst (a.1.toNat * a.2.1.toNat) (flD a.1.toNat a.2.1.toNat (hts a)).fill) (fun i => rain.getD i 0) (fun m j hm hj => F.ga_bd R.wh hr m j hm hj) _ ?_) (by rw [← eR]; rfl)))
        · (repeat' (first | exact trivial | refine And.intro ?_ ?_ | (show _ ≤ _; omega) | (show _ ≤ _; simp; done)))
        (repeat' (first | exact trivial | exact fun h => h | refine And.intro ?_ ?_ | (intro hb; first | (simp at hb; done) | (simp at hb) | skip) | omega | exact rfl | exact Nat.le_refl _ | (show _ + 1 ≤ 4294967296; omega) | (dsimp only; omega) | (show (_ : Int) ≤ (_ : Int); omega) | (show _ < List.length _; simp only [List.length_set, List.length_append, List.length_take]; omega) | (show wantB _ _ = true; simp; done) | (show wantB _ _ = true; simp; omega) | (show (_ : Bool) = _; simp_all; done) | (exfalso; omega) | fail))
        refine ⟨_, _, (REnt.conv [.dat (.list int), .keep] _ rfl ?_).trans (REnt.drop ⟨rfl, rfl⟩), ?_⟩
        · show 0 + _ ≤ _
          rw [Nat.zero_add, lst_len]; exact Nat.le_refl _
        · refine (congrArg (fun l => K (.tup [.fz (.list int) l, .fz .raw .nilIface]) []) ?_).mp hK
          rw [List.drop_zero, List.take_of_length_le (by rw [lst_len]; exact Nat.le_refl _)]
    · have e1 : gaE a rain = 3 := by unfold gaE; rw [if_pos hv, if_pos (.inl hlen)]
      have e2 : gaQ a rain = [] := by unfold gaQ; rw [e1, if_neg (by omega)]
      rw [e1, e2] at hK
      (repeat' (first | exact trivial | exact fun h => h | refine And.intro ?_ ?_ | (intro hb; first | (simp at hb; done) | (simp at hb) | skip) | omega | exact rfl | exact Nat.le_refl _ | (show _ + 1 ≤ 4294967296; omega) | (dsimp only; omega) | (show (_ : Int) ≤ (_ : Int); omega) | (show _ < List.length _; simp only [List.length_set, List.length_append, List.length_take]; omega) | (show wantB _ _ = true; simp; done) | (show wantB _ _ = true; simp; omega) | (show (_ : Bool) = _; simp_all; done) | (exfalso; omega) | refine aRegion_auto (by decide +kernel) ?_ | fail))
      refine ⟨_, _, (REnt.conv [.dat (.list int), .keep] _ rfl trivial).trans (REnt.drop ⟨rfl, rfl⟩), ?_⟩
      exact hK
  · have h4 := rerr_in a
    have e1 : gaE a rain = rerr a := by unfold gaE; rw [if_neg hv]
    have e2 : gaQ a rain = [] := by unfold gaQ; rw [e1, if_neg hv]
    rw [e1, e2] at hK
    refine acall_mk (E := envAt (GE E) 31 0) (envOk _ _ _) Tryd.func13 rfl rfl rfl rfl rfl ?_
    (repeat' (first | exact trivial | exact fun h => h | refine And.intro ?_ ?_ | (intro hb; first | (simp at hb; done) | (simp at hb) | skip) | omega | exact rfl | exact Nat.le_refl _ | (show _ + 1 ≤ 4294967296; omega) | (dsimp only; omega) | (show (_ : Int) ≤ (_ : Int); omega) | (show _ < List.length _; simp only [List.length_set, List.length_append, List.length_take]; omega) | (show wantB _ _ = true; simp; done) | (show wantB _ _ = true; simp; omega) | (show (_ : Bool) = _; simp_all; done) | (exfalso; omega) | fail))
    refine acall_conv [.dat RasT] _ _ _ rfl trivial (acall_frame0 rfl (flood_oneE E a hl _ ?_))
    obtain h | h | h | h : rerr a = 1 ∨ rerr a = 2 ∨ rerr a = 3 ∨ rerr a = 4 := by omega
    all_goals
      rw [h] at hK ⊢
      (repeat' (first | exact trivial | exact fun h => h | refine And.intro ?_ ?_ | (intro hb; first | (simp at hb; done) | (simp at hb) | skip) | omega | exact rfl | exact Nat.le_refl _ | (show _ + 1 ≤ 4294967296; omega) | (dsimp only; omega) | (show (_ : Int) ≤ (_ : Int); omega) | (show _ < List.length _; simp only [List.length_set, List.length_append, List.length_take]; omega) | (show wantB _ _ = true; simp; done) | (show wantB _ _ = true; simp; omega) | (show (_ : Bool) = _; simp_all; done) | (exfalso; omega) | fail))
      refine ⟨_, _, (REnt.conv [.dat (.list int), .keep] _ rfl trivial).trans (REnt.drop ⟨rfl, rfl⟩), ?_⟩
      exact hK
set_option maxHeartbeats 4000000 in
theorem way_oneE (E : Errs) (a : Ras) (cell : Int) (hl : a.2.2.length ≤ 1000000000000) (K : AV → List AO → Prop)
    (hK0 : wyE a cell ≠ 0 → K (.tup [.fz (.list int) [], .fz .raw (er E (wyE a cell))]) [])
    (hK1 : wyE a cell = 0 → ∀ t, stopN (flD a.1.toNat a.2.1.toNat (hts a)).to cell.toNat t → K (.tup [.fz (.list int) (wyL (flD a.1.toNat a.2.1.toNat (hts a)).to cell.toNat t), .fz .raw .nilIface]) []) :
    ACall Tryd.prog (GE E) 15 [.fz RasT a, .fz int cell] [] K := by
  by_cases hv : rerr a = 0
  · have R := RasN.mk' hv
    have F := flowN a.1.toNat a.2.1.toNat (hts a) R.w0
    have eF : flP a = fResP a.1.toNat a.2.1.toNat a := by unfold flP; rw [if_pos hv]
    have hln := R.len
    have hwh := R.wh
    refine acall_mk (E := envAt (GE E) 51 0) (envOk _ _ _) Tryd.func15 rfl rfl rfl rfl rfl ?_
    (repeat' (first | exact trivial | exact fun h => h | refine And.intro ?_ ?_ | (intro hb; first | (simp at hb; done) | (simp at hb) | skip) | omega | exact rfl | exact Nat.le_refl _ | (show _ + 1 ≤ 4294967296; omega) | (dsimp only; omega) | (show (_ : Int) ≤ (_ : Int); omega) | (show _ < List.length _; simp only [List.length_set, List.length_append, List.length_take]; omega) | (show wantB _ _ = true; simp; done) | (show wantB _ _ = true; simp; omega) | (show (_ : Bool) = _; simp_all; done) | (exfalso; omega) | fail))
    refine acall_conv [.dat RasT] _ _ _ rfl trivial (acall_frame0 rfl (flood_oneE E a hl _ ?_))
    rw [hv, eF]
    by_cases hc : cell < 0 ∨ (a.2.2.length : Int) ≤ cell
    · have e1 : wyE a cell = 4 := by unfold wyE; rw [if_pos hv, if_pos hc]
      rw [e1] at hK0
      have hK := hK0 (by omega)
      (repeat' (first | exact trivial | exact fun h => h | refine And.intro ?_ ?_ | (intro hb; first | (simp at hb; done) | (simp at hb) | skip) | omega | exact rfl | exact Nat.le_refl _ | (show _ + 1 ≤ 4294967296; omega) | (dsimp only; omega) | (show (_ : Int) ≤ (_ : Int); omega) | (show _ < List.length _; simp only [List.length_set, List.length_append, List.length_take]; omega) | (show wantB _ _ = true; simp; done) | (show wantB _ _ = true; simp; omega) | (show (_ : Bool) = _; simp_all; done) | (exfalso; omega) | refine aRegion_auto (by decide +kernel) ?_ | fail))
      (repeat' (first | exact trivial | exact fun h => h | refine And.intro ?_ ?_ | (intro hb; first | (simp at hb; done) | (simp at hb) | skip) | omega | exact rfl | exact Nat.le_refl _ | (show _ + 1 ≤ 4294967296; omega) | (dsimp only; omega) | (show (_ : Int) ≤ (_ : Int); omega) | (show _ < List.length _; simp only [List.length_set, List.length_append, List.length_take]; omega) | (show wantB _ _ = true; simp; done) | (show wantB _ _ = true; simp; omega) | (show (_ : Bool) = _; simp_all; done) | (exfalso; omega) | refine aRegion_auto (by decide +kernel) ?_ | fail))
      refine ⟨_, _, (REnt.conv [.dat (.list int), .keep] _ rfl trivial).trans (REnt.drop ⟨rfl, rfl⟩), ?_⟩
      exact hK
    · have e1 : wyE a cell = 0 := by unfold wyE; rw [if_pos hv, if_neg hc]
      have hK := hK1 e1
      obtain ⟨c, rfl⟩ : ∃ c : Nat, cell = c := ⟨cell.toNat, by omega⟩
      rw [Int.toNat_natCast] at hK
      have hcn : c < a.1.toNat * a.2.1.toNat := by omega
      have eFl : fResP a.1.toNat a.2.1.toNat a = (lst (a.1.toNat * a.2.1.toNat) (flD a.1.toNat a.2.1.toNat (hts a)).fill, lst (a.1.toNat * a.2.1.toNat) (fun i => wayN a.1.toNat i ((flD a.1.toNat a.2.1.toNat (hts a)).to i)), natL (flD a.1.toNat a.2.1.toNat (hts a)).ord) := rfl
      rw [eFl]
      generalize (flD a.1.toNat a.2.1.toNat (hts a)).to = to at *
      generalize (flD a.1.toNat a.2.1.toNat (hts a)).ord = ord at *
      generalize lst (a.1.toNat * a.2.1.toNat) (flD a.1.toNat a.2.1.toNat (hts a)).fill = fill at *
      obtain ⟨w, hw⟩ : ∃ w, w = a.1.toNat := ⟨_, rfl⟩
      obtain ⟨h, hh⟩ : ∃ h, h = a.2.1.toNat := ⟨_, rfl⟩
      rw [← hw, ← hh] at R F hln hwh hcn ⊢
      have hL := lst_len (w * h) (fun i => wayN w i (to i))
      have hx := fun t => F.idx (F.it_lt hcn t)
      (repeat' (first | exact trivial | exact fun h => h | refine And.intro ?_ ?_ | (intro hb; first | (simp at hb; done) | (simp at hb) | skip) | omega | exact rfl | exact Nat.le_refl _ | (show _ + 1 ≤ 4294967296; omega) | (dsimp only; omega) | (show (_ : Int) ≤ (_ : Int); omega) | (show _ < List.length _; simp only [List.length_set, List.length_append, List.length_take]; omega) | (show wantB _ _ = true; simp; done) | (show wantB _ _ = true; simp; omega) | (show (_ : Bool) = _; simp_all; done) | (exfalso; omega) | fail))
      refine ⟨Nat, fun t => ⟨[(1, .fz int (itF to t c)), (2, .ptr 0 0), (6, .ptr 1 0), (8, .ref 2 0 (t + 1))], [.box [.fz int a.1, .fz int a.2.1, .fz (.list int) a.2.2], .box [.fz (.list int) fill, .fz (.list int) (lst (w * h) (fun i => wayN w i (to i))), .fz (.list int) (natL ord)], .row int (wyL to c t)]⟩, fun t => (∀ s, s < t → to (itF to s c) ≠ itF to s c) ∧ ord.idxOf (itF to t c) + t ≤ ord.idxOf c, fun t => ord.idxOf (itF to t c), 0, ⟨(fun s hs => absurd hs (Nat.not_lt_zero s)), Nat.le_refl _⟩, Ent.sub ?_ ?_, ?_⟩
      · (repeat' (first | exact rfl | refine cons_eq ?_ ?_))
      · (repeat' (first | exact trivial | exact rfl | refine And.intro ?_ ?_))
      intro t ⟨hs, hsum⟩
      have hc' := F.it_lt hcn t
      have hW := wyL_len to c t
      have g2 : (lst (w * h) (fun i => wayN w i (to i)))[itF to t c]?.getD int.dft = wayN w (itF to t c) (to (itF to t c)) := lst_get _ hc'
      by_cases he : to (itF to t c) = itF to t c
      · have hw8 : wayN w (itF to t c) (to (itF to t c)) = 8 := by rw [he, way_self]
        (repeat' (first | exact trivial | exact fun h => h | refine And.intro ?_ ?_ | (intro hb; first | (simp at hb; done) | (simp at hb) | skip) | omega | exact rfl | exact Nat.le_refl _ | (show _ + 1 ≤ 4294967296; omega) | (dsimp only; omega) | (show (_ : Int) ≤ (_ : Int); omega) | (show _ < List.length _; simp only [List.length_set, List.length_append, List.length_take]; omega) | (show wantB _ _ = true; simp; done) | (show wantB _ _ = true; simp; omega) | (show (_ : Bool) = _; simp_all; done) | (exfalso; omega) | fail))
        refine ⟨_, _, (REnt.conv [.dat (.list int), .keep] _ rfl ?_).trans (REnt.drop ⟨rfl, rfl⟩), ?_⟩
        · show 0 + _ ≤ _
          omega
        · refine (congrArg (fun l => K (.tup [.fz (.list int) l, .fz .raw .nilIface]) []) ?_).mp (hK t ⟨hs, he⟩)
          rw [List.drop_zero, List.take_of_length_le (by omega)]
      · obtain ⟨v, hv8, hwv, hnb⟩ := way_to (w := w) (h := h) (i := itF to t c) (t := to (itF to t c)) hc' (F.lt _ hc') (touchN_symm (F.touch _ hc' he))
        have g2' : List.getD (lst (w * h) (fun i => wayN w i (to i))) (Int.toNat ((itF to t c : Nat) : Int)) int.dft = wayN w (itF to t c) (to (itF to t c)) := lst_at _ hc'
        have ht := F.lt _ hc'
        have hd := F.pos _ hc' he
        have hxt := hx t
        have hs' : ∀ s, s < t + 1 → to (itF to s c) ≠ itF to s c := fun s h1 => by
          by_cases e : s = t
          · subst e; exact he
          · exact hs s (by omega)
        have hx0 := hx 0
        have htn : t < w * h := by show t < w * h; have : ord.idxOf c < w * h := hx0; omega
        have hsum' : ord.idxOf (to (itF to t c)) + (t + 1) ≤ ord.idxOf c := by omega
        (repeat' (first | exact trivial | exact fun h => h | refine And.intro ?_ ?_ | (intro hb; first | (simp at hb; done) | (simp at hb) | skip) | omega | exact rfl | exact Nat.le_refl _ | (show _ + 1 ≤ 4294967296; omega) | (dsimp only; omega) | (show (_ : Int) ≤ (_ : Int); omega) | (show _ < List.length _; simp only [List.length_set, List.length_append, List.length_take]; omega) | (show wantB _ _ = true; simp; done) | (show wantB _ _ = true; simp; omega) | (show (_ : Bool) = _; simp_all; done) | (exfalso; omega) | refine aRegion_auto (by decide +kernel) ?_ | fail))
        rw [g2', hwv]
        apply exEff
        · refine acall_conv [.dat RasT, .keep, .keep] _ _ _ rfl trivial (acall_frame0 rfl (neighbour_any _ a R (itF to t c) v hc' hv8 _ (fun u hu => ?_) (fun hnone => ?_)))
          · rw [hnb] at hu; cases hu; exact ⟨rfl, rfl⟩
          · rw [hnb] at hnone; cases hnone
        (repeat' (first | exact trivial | exact fun h => h | refine And.intro ?_ ?_ | (intro hb; first | (simp at hb; done) | (simp at hb) | skip) | omega | exact rfl | exact Nat.le_refl _ | (show _ + 1 ≤ 4294967296; omega) | (dsimp only; omega) | (show (_ : Int) ≤ (_ : Int); omega) | (show _ < List.length _; simp only [List.length_set, List.length_append, List.length_take]; omega) | (show wantB _ _ = true; simp; done) | (show wantB _ _ = true; simp; omega) | (show (_ : Bool) = _; simp_all; done) | (exfalso; omega) | refine aRegion_auto (by decide +kernel) ?_ | fail))
        refine ⟨t + 1, ⟨hs', hsum'⟩, hd, Ent.ren [0, 1, 4] rfl ?_ ?_⟩
        · (repeat' (first | exact trivial | exact rfl | refine And.intro ?_ ?_))
          refine congrArg (fun l => some (AO.row int l)) (?_ : List.take (t + 1) (wyL to c t) ++ [((itF to (t + 1) c : Nat) : Int)] = wyL to c (t + 1))
          rw [List.take_of_length_le (by omega), wyL_succ]
        · (repeat' (first | exact trivial | exact rfl | refine And.intro ?_ ?_))
  · have h4 := rerr_in a
    have e1 : wyE a cell = rerr a := by unfold wyE; rw [if_neg hv]
    rw [e1] at hK0
    have hK := hK0 hv
    refine acall_mk (E := envAt (GE E) 51 0) (envOk _ _ _) Tryd.func15 rfl rfl rfl rfl rfl ?_
    (repeat' (first | exact trivial | exact fun h => h | refine And.intro ?_ ?_ | (intro hb; first | (simp at hb; done) | (simp at hb) | skip) | omega | exact rfl | exact Nat.le_refl _ | (show _ + 1 ≤ 4294967296; omega) | (dsimp only; omega) | (show (_ : Int) ≤ (_ : Int); omega) | (show _ < List.length _; simp only [List.length_set, List.length_append, List.length_take]; omega) | (show wantB _ _ = true; simp; done) | (show wantB _ _ = true; simp; omega) | (show (_ : Bool) = _; simp_all; done) | (exfalso; omega) | fail))
    refine acall_conv [.dat RasT] _ _ _ rfl trivial (acall_frame0 rfl (flood_oneE E a hl _ ?_))
    obtain h | h | h | h : rerr a = 1 ∨ rerr a = 2 ∨ rerr a = 3 ∨ rerr a = 4 := by omega
    all_goals
      rw [h] at hK ⊢
      (repeat' (first | exact trivial | exact fun h => h | refine And.intro ?_ ?_ | (intro hb; first | (simp at hb; done) | (simp at hb) | skip) | omega | exact rfl | exact Nat.le_refl _ | (show _ + 1 ≤ 4294967296; omega) | (dsimp only; omega) | (show (_ : Int) ≤ (_ : Int); omega) | (show _ < List.length _; simp only [List.length_set, List.length_append, List.length_take]; omega) | (show wantB _ _ = true; simp; done) | (show wantB _ _ = true; simp; omega) | (show (_ : Bool) = _; simp_all; done) | (exfalso; omega) | fail))
      refine ⟨_, _, (REnt.conv [.dat (.list int), .keep] _ rfl trivial).trans (REnt.drop ⟨rfl, rfl⟩), ?_⟩
      exact hK
theorem way_twoE (E : Errs) (a : Ras) (cell : Int) (hl : a.2.2.length ≤ 1000000000000) (K : AV → List AO → Prop) (hK : K (.tup [.fz (.list int) (wyQ a cell), .fz .raw (er E (wyE a cell))]) []) :
    ACall Tryd.prog (GE E) 15 [.fz RasT a, .fz int cell] [] K := by
  refine way_oneE E a cell hl K (fun hne => ?_) (fun h0 t ht => ?_)
  · unfold wyQ at hK
    rw [if_neg hne] at hK
    exact hK
  · unfold wyQ at hK
    rw [if_pos h0, wyT_eq ht, h0] at hK
    exact hK
end Go.Proofs.YtepkknjncpbahaaDoor
/-
  DrainAlways: the walk.
-/
namespace Go.Proofs.YtepkknjncpbahaaDoor
open Go Go.Ab
set_option maxRecDepth 100000
theorem flN_fbd {w h : Nat} {L : Nat → Int} (hw : 0 < w) {B : Int} (hB : 0 ≤ B) (hL : ∀ i, i < w * h → L i ≤ B) : ∀ k, k ≤ w * h → ∀ i, i < w * h → (flN w h L k).fill i ≤ B
  | 0, _, i, hi => by
    show (if rimN w h i then L i else 0) ≤ B
    have := hL i hi
    split <;> omega
  | k + 1, hk, i, hi => by
    obtain ⟨b, _, ⟨h2, _⟩, h3⟩ := flN_best w h L hw (k := k) (by omega)
    have i1 := flN_fbd hw hB hL k (by omega) i hi
    have i2 := flN_fbd hw hB hL k (by omega) b h2
    have := hL i hi
    rw [h3]
    show (if touchN w b i ∧ (flN w h L k).st i = 0 then max (L i) ((flN w h L k).fill b) else (flN w h L k).fill i) ≤ B
    split <;> omega
theorem rimS_bd {w h : Nat} {g : Nat → Int} (hg : ∀ i, i < w * h → 0 ≤ g i) : ∀ k, k ≤ w * h → 0 ≤ rimS w h g k
  | 0, _ => Int.le_refl _
  | k + 1, hk => by
    have := rimS_bd hg k (by omega)
    have := hg k (by omega)
    show 0 ≤ rimS w h g k + (if rimN w h k then g k else 0)
    split <;> omega
theorem rimS_mono {w h : Nat} {g : Nat → Int} (hg : ∀ i, i < w * h → 0 ≤ g i) {k : Nat} : ∀ d, k + d ≤ w * h → rimS w h g k ≤ rimS w h g (k + d)
  | 0, _ => Int.le_refl _
  | d + 1, hk => by
    have := rimS_mono (k := k) hg d (by omega)
    have := hg (k + d) (by omega)
    show rimS w h g k ≤ rimS w h g (k + d) + (if rimN w h (k + d) then g (k + d) else 0)
    split <;> omega
set_option maxHeartbeats 8000000 in
theorem drainAlways_some (E : Errs) (a : Ras) (rain : List Int) (hla : a.2.2.length ≤ 9223372036854775807) (_ : rain.length ≤ 9223372036854775807) (K : AV → List AO → Prop) (hK : K (.fz .bool true) []) :
    ACall Tryd.prog (GE E) 3 [.fptr RasT a, .fz (.list int) rain] [] K := by
  refine acall_mk (E := envCut (GE E) 258 0 [22]) (envCutOk _ _ _ _) Tryd.func3 rfl rfl rfl rfl rfl ?_
  (repeat' (first | exact trivial | exact fun h => h | refine And.intro ?_ ?_ | (intro hb; first | (simp at hb; done) | (simp at hb) | skip) | omega | exact rfl | exact Nat.le_refl _ | (show _ + 1 ≤ 4294967296; omega) | (dsimp only; omega) | (show (_ : Int) ≤ (_ : Int); omega) | (show _ < List.length _; simp only [List.length_set, List.length_append, List.length_take]; omega) | (show wantB _ _ = true; simp; done) | (show wantB _ _ = true; simp; omega) | (show (_ : Bool) = _; simp_all; done) | (exfalso; omega) | refine aRegion_auto (by decide +kernel) ?_ | refine ⟨_, _, REnt.drop ⟨rfl, rfl⟩, ?_⟩ | fail))
  refine acall_frame0 rfl (drains_anyE E _ ?_)
  (repeat' (first | exact trivial | exact fun h => h | refine And.intro ?_ ?_ | (intro hb; first | (simp at hb; done) | (simp at hb) | skip) | omega | exact rfl | exact Nat.le_refl _ | (show _ + 1 ≤ 4294967296; omega) | (dsimp only; omega) | (show (_ : Int) ≤ (_ : Int); omega) | (show _ < List.length _; simp only [List.length_set, List.length_append, List.length_take]; omega) | (show wantB _ _ = true; simp; done) | (show wantB _ _ = true; simp; omega) | (show (_ : Bool) = _; simp_all; done) | (exfalso; omega) | refine aRegion_auto (by decide +kernel) ?_ | refine ⟨_, _, REnt.drop ⟨rfl, rfl⟩, ?_⟩ | fail))
  refine acall_frame0 rfl (small80_any _ a _ ?_)
  by_cases hl : a.2.2.length ≤ 80
  · rw [decide_eq_true hl]
    (repeat' (first | exact trivial | exact fun h => h | refine And.intro ?_ ?_ | (intro hb; first | (simp at hb; done) | (simp at hb) | skip) | omega | exact rfl | exact Nat.le_refl _ | (show _ + 1 ≤ 4294967296; omega) | (dsimp only; omega) | (show (_ : Int) ≤ (_ : Int); omega) | (show _ < List.length _; simp only [List.length_set, List.length_append, List.length_take]; omega) | (show wantB _ _ = true; simp; done) | (show wantB _ _ = true; simp; omega) | (show (_ : Bool) = _; simp_all; done) | (exfalso; omega) | refine aRegion_auto (by decide +kernel) ?_ | refine ⟨_, _, REnt.drop ⟨rfl, rfl⟩, ?_⟩ | fail))
    refine acall_frame0 rfl (rasterError_any _ a (by omega) _ ?_)
    by_cases hv : rerr a = 0 ∧ rain.length = a.2.2.length
    · obtain ⟨hv, hlen⟩ := hv
      have R := RasN.mk' hv
      have F := flowN a.1.toNat a.2.1.toNat (hts a) R.w0
      have hwh := R.wh
      have hln := R.len
      have hhi := R.at
      have GF := goodFill a.1.toNat a.2.1.toNat (hts a) R.w0
      obtain ⟨n, hn⟩ : ∃ n, n = a.1.toNat * a.2.1.toNat := ⟨_, rfl⟩
      rw [hv]
      (repeat' (first | exact trivial | exact fun h => h | refine And.intro ?_ ?_ | (intro hb; first | (simp at hb; done) | (simp at hb) | skip) | omega | exact rfl | exact Nat.le_refl _ | (show _ + 1 ≤ 4294967296; omega) | (dsimp only; omega) | (show (_ : Int) ≤ (_ : Int); omega) | (show _ < List.length _; simp only [List.length_set, List.length_append, List.length_take]; omega) | (show wantB _ _ = true; simp; done) | (show wantB _ _ = true; simp; omega) | (show (_ : Bool) = _; simp_all; done) | (exfalso; omega) | refine aRegion_auto (by decide +kernel) ?_ | refine ⟨_, _, REnt.drop ⟨rfl, rfl⟩, ?_⟩ | fail))
      have rB : ∀ k, k ≤ rain.length → (∀ i, i < k → 0 ≤ rain.getD i 0 ∧ rain.getD i 0 ≤ 1048576) → 0 ≤ sumN k (fun i => rain.getD i 0) ∧ sumN k (fun i => rain.getD i 0) ≤ (k * 1048576 : Nat) := fun k hk h => sumN_bd k h
      refine ⟨Nat, fun k => ⟨[(0, .fptr RasT a), (1, .fz (.list int) rain), (5, .fz .bool true), (7, .fz int (sumN k (fun i => rain.getD i 0))), (8, .fz int k)], []⟩, fun k => k ≤ rain.length ∧ ∀ i, i < k → 0 ≤ rain.getD i 0 ∧ rain.getD i 0 ≤ 1048576, fun k => rain.length - k, 0, ⟨Nat.zero_le _, (fun i hi => absurd hi (Nat.not_lt_zero _))⟩, Ent.sub ?_ ?_, ?_⟩
      · (repeat' (first | exact rfl | refine cons_eq ?_ ?_))
      · (repeat' (first | exact trivial | exact rfl | refine And.intro ?_ ?_))
      intro k ⟨hk, hkr⟩
      have hsum := rB k hk hkr
      by_cases hkn : k < rain.length
      · have q1 : List.getD rain (Int.toNat (k : Int)) int.dft = rain.getD k 0 := rfl
        have q2 : rain[k]?.getD int.dft = rain.getD k 0 := by rw [List.getD_eq_getElem?_getD]; rfl
        (repeat' (first | exact trivial | exact fun h => h | refine And.intro ?_ ?_ | (intro hb; first | (simp at hb; done) | (simp at hb) | skip) | omega | exact rfl | exact Nat.le_refl _ | (show _ + 1 ≤ 4294967296; omega) | (dsimp only; omega) | (show (_ : Int) ≤ (_ : Int); omega) | (show _ < List.length _; simp only [List.length_set, List.length_append, List.length_take]; omega) | (show wantB _ _ = true; simp; done) | (show wantB _ _ = true; simp; omega) | (show (_ : Bool) = _; simp_all; done) | (exfalso; omega) | refine aRegion_auto (by decide +kernel) ?_ | refine ⟨_, _, REnt.drop ⟨rfl, rfl⟩, ?_⟩ | fail))
        · exact hK
        · have hkk : 0 ≤ rain.getD k 0 ∧ rain.getD k 0 ≤ 1048576 := by omega
          refine ⟨k + 1, ⟨by show k + 1 ≤ rain.length; omega, fun i hi => ?_⟩, by show rain.length - (k + 1) < rain.length - k; omega, Ent.sub ?_ ?_⟩
          · by_cases e : i = k
            · rw [e]; exact hkk
            · exact hkr i (by omega)
          · (repeat' (first | exact rfl | refine cons_eq ?_ ?_))
          · (repeat' (first | exact trivial | exact rfl | refine And.intro ?_ ?_))
      · have hke : k = rain.length := by omega
        rw [hke] at hkr hsum
        subst hke
        have hr : ∀ u, u < n → 0 ≤ rain.getD u 0 ∧ rain.getD u 0 ≤ 1048576 := fun u hu => hkr u (by omega)
        have eE : gaE a rain = 0 := by
          unfold gaE
          rw [if_pos hv, if_neg]
          rintro (h | h)
          · exact h hlen
          · obtain ⟨x, hx, hbx⟩ := List.any_eq_true.1 h
            obtain ⟨i, hi, rfl⟩ := List.getElem_of_mem hx
            have := hkr i hi
            rw [List.getD_eq_getElem?_getD, List.getElem?_eq_getElem hi] at this
            have hb : badB rain[i] = false := by unfold badB; simp at this ⊢; omega
            rw [hb] at hbx; cases hbx
        have eQ : gaQ a rain = lst n (gaN (flD a.1.toNat a.2.1.toNat (hts a)).to (flD a.1.toNat a.2.1.toNat (hts a)).ord (fun i => rain.getD i 0) n) := by unfold gaQ; rw [if_pos eE, ← hn]
        have eF : fillQ a = (a.1, a.2.1, lst n (flD a.1.toNat a.2.1.toNat (hts a)).fill) := by
          unfold fillQ flP
          rw [if_pos hv, if_pos hv, hn]; rfl
        have eW : ∀ c : Nat, c < n → wyQ a (c : Int) = wyL (flD a.1.toNat a.2.1.toNat (hts a)).to c (wyT (flD a.1.toNat a.2.1.toNat (hts a)).to c) ∧ wyE a (c : Int) = 0 := fun c hc => by
          have h0 : wyE a (c : Int) = 0 := by unfold wyE; rw [if_pos hv, if_neg (by omega)]
          refine ⟨?_, h0⟩
          unfold wyQ
          rw [if_pos h0, Int.toNat_natCast]
        have hfb := fun i hi => flN_fbd (w := a.1.toNat) (h := a.2.1.toNat) (L := hts a) R.w0 (B := 1048576) (by omega) (fun i _ => (hhi i).2) (a.1.toNat * a.2.1.toNat) (Nat.le_refl _) i hi
        have hgb := fun j (hj : j < n) => F.ga_bd R.wh (rain := fun i => rain.getD i 0) (fun u hu => hr u (by omega)) n j (by omega) (by omega)
        have hRain := F.rain_rim (fun i => rain.getD i 0)
        (repeat' (first | exact trivial | exact fun h => h | refine And.intro ?_ ?_ | (intro hb; first | (simp at hb; done) | (simp at hb) | skip) | omega | exact rfl | exact Nat.le_refl _ | (show _ + 1 ≤ 4294967296; omega) | (dsimp only; omega) | (show (_ : Int) ≤ (_ : Int); omega) | (show _ < List.length _; simp only [List.length_set, List.length_append, List.length_take]; omega) | (show wantB _ _ = true; simp; done) | (show wantB _ _ = true; simp; omega) | (show (_ : Bool) = _; simp_all; done) | (exfalso; omega) | refine aRegion_auto (by decide +kernel) ?_ | refine ⟨_, _, REnt.drop ⟨rfl, rfl⟩, ?_⟩ | fail))
        refine acall_conv [.dat RasT] _ _ _ rfl trivial (acall_frame0 rfl (fill_oneE E a (by omega) _ ?_))
        rw [hv, eF]
        (repeat' (first | exact trivial | exact fun h => h | refine And.intro ?_ ?_ | (intro hb; first | (simp at hb; done) | (simp at hb) | skip) | omega | exact rfl | exact Nat.le_refl _ | (show _ + 1 ≤ 4294967296; omega) | (dsimp only; omega) | (show (_ : Int) ≤ (_ : Int); omega) | (show _ < List.length _; simp only [List.length_set, List.length_append, List.length_take]; omega) | (show wantB _ _ = true; simp; done) | (show wantB _ _ = true; simp; omega) | (show (_ : Bool) = _; simp_all; done) | (exfalso; omega) | refine aRegion_auto (by decide +kernel) ?_ | refine ⟨_, _, REnt.drop ⟨rfl, rfl⟩, ?_⟩ | fail))
        refine acall_conv [.dat RasT, .keep] _ _ _ rfl trivial (acall_frame0 rfl (gather_oneE E a rain (by omega) (by omega) _ ?_))
        rw [eE, eQ]
        change ∀ i, i < a.1.toNat * a.2.1.toNat → (flD a.1.toNat a.2.1.toNat (hts a)).fill i ≤ 1048576 at hfb
        generalize hord : (flD a.1.toNat a.2.1.toNat (hts a)).ord = ord at *
        generalize hto : (flD a.1.toNat a.2.1.toNat (hts a)).to = to at *
        generalize hfill : (flD a.1.toNat a.2.1.toNat (hts a)).fill = fill at *
        clear hord hto hfill eQ eF
        obtain ⟨w, hw⟩ : ∃ w, w = a.1.toNat := ⟨_, rfl⟩
        obtain ⟨h, hh⟩ : ∃ h, h = a.2.1.toNat := ⟨_, rfl⟩
        rw [← hw, ← hh] at R F hn hln hwh GF hfb hRain
        rw [← hn] at hln hwh hfb hRain
        generalize hga : gaN to ord (fun i => rain.getD i 0) n = ga at *
        have hLf := lst_len n fill
        have hLg := lst_len n ga
        have hbd2 : ∀ i, 0 ≤ rimS w h ga i ∨ n < i := fun i => by
          by_cases hi : i ≤ n
          · exact .inl (rimS_bd (fun j hj => (hgb j (by omega)).1) i (by omega))
          · exact .inr (by omega)
        have hbd3 : ∀ i, i ≤ n → rimS w h ga i ≤ sumN n (fun i => rain.getD i 0) := fun i hi => by
          have := rimS_mono (w := w) (h := h) (g := ga) (k := i) (fun j hj => (hgb j (by omega)).1) (n - i) (by omega)
          rw [show i + (n - i) = n by omega, hRain] at this
          exact this
        have hrl : rain.length = n := by omega
        rw [hrl] at hsum ⊢
        let bF : AO := .box [.fz int a.1, .fz int a.2.1, .fz (.list int) (lst n fill)]
        obtain ⟨tot, htot⟩ : ∃ tot, tot = sumN n (fun i => rain.getD i 0) := ⟨_, rfl⟩
        rw [← htot] at hsum hbd3 hRain ⊢
        (repeat' (first | exact trivial | exact fun h => h | refine And.intro ?_ ?_ | (intro hb; first | (simp at hb; done) | (simp at hb) | skip) | omega | exact rfl | exact Nat.le_refl _ | (show _ + 1 ≤ 4294967296; omega) | (dsimp only; omega) | (show (_ : Int) ≤ (_ : Int); omega) | (show _ < List.length _; simp only [List.length_set, List.length_append, List.length_take]; omega) | (show wantB _ _ = true; simp; done) | (show wantB _ _ = true; simp; omega) | (show (_ : Bool) = _; simp_all; done) | (exfalso; omega) | refine aRegion_auto (by decide +kernel) ?_ | refine ⟨_, _, REnt.drop ⟨rfl, rfl⟩, ?_⟩ | fail))
        refine ⟨Nat, fun i => ⟨[(0, .fptr RasT a), (7, .fz int (tot - rimS w h ga i)), (9, .ptr 0 0), (11, .fz (.list int) (lst n ga)), (13, .fz int i)], [bF]⟩, fun i => i ≤ n, fun i => n - i, 0, Nat.zero_le _, Ent.sub ?_ ?_, ?_⟩
        · (repeat' (first | exact rfl | refine cons_eq ?_ ?_))
        · (repeat' (first | exact trivial | exact rfl | refine And.intro ?_ ?_))
          exact congrArg (AV.fz int) (show tot = tot - rimS w h ga 0 by unfold rimS sumN; omega)
        intro i hi
        by_cases hin : i < n
        · have hb2 := hbd2 i
          have hb3 := hbd3 i hi
          have hb4 := hbd3 (i + 1) (by omega)
          have hb5 := hbd2 (i + 1)
          have eRS : rimS w h ga (i + 1) = rimS w h ga i + (if rimN w h i then ga i else 0) := rfl
          have q1 : List.getD (lst n ga) (Int.toNat (i : Int)) int.dft = ga i := lst_at _ hin
          have q2 : List.getD (lst n fill) (Int.toNat (i : Int)) int.dft = fill i := lst_at _ hin
          have q3 : (lst n fill)[i]?.getD int.dft = fill i := lst_get _ hin
          have q4 : List.getD a.2.2 (Int.toNat (i : Int)) int.dft = hts a i := rfl
          have q5 : a.2.2[i]?.getD int.dft = hts a i := by show _ = List.getD a.2.2 i 0; rw [List.getD_eq_getElem?_getD]; rfl
          have gu := GF.up i (by omega)
          have hgi := hgb i hin
          have hfi := hfb i hin
          have hhi' := hhi i
          have hlo : -1048576 ≤ fill i := Int.le_trans hhi'.1 gu
          obtain ⟨t, hst⟩ := F.stop_ex (ord.idxOf i + 1) i (by omega) (by omega)
          obtain ⟨eW1, eW2⟩ := eW i hin
          rw [wyT_eq hst] at eW1
          have hWl := wyL_len to i t
          have hW0 : List.getD (wyL to i t) (Int.toNat 0) int.dft = (i : Int) := lst_at (fun s => ((itF to s i : Nat) : Int)) (by omega : 0 < t + 1)
          have hW0' : (wyL to i t)[0]?.getD int.dft = (i : Int) := lst_get (fun s => ((itF to s i : Nat) : Int)) (by omega : 0 < t + 1)
          have hlt := fun s => F.it_lt (i := i) (by omega) s
          rw [← hn] at hlt
          have hWt : List.getD (wyL to i t) (Int.toNat (((t + 1 : Nat) : Int) - 1)) int.dft = ((itF to t i : Nat) : Int) := by
            rw [show (((t + 1 : Nat) : Int) - 1) = (t : Int) by omega, Int.toNat_natCast]
            exact lst_at (fun s => ((itF to s i : Nat) : Int)) (by omega : t < t + 1)
          have hWt' : List.getD (wyL to i t) (Int.toNat ((((wyL to i t).length : Nat) : Int) - 1)) int.dft = ((itF to t i : Nat) : Int) := by rw [hWl]; exact hWt
          have hWn : wyL to i t ≠ [] := fun e => by rw [e] at hWl; simp at hWl
          have hlt' := hlt t
          have hrimt : rimN w h (itF to t i) := (F.rim _ (by have := hlt t; omega)).1 hst.2
          have hti : t ≤ n := by
            have hx := fun s => F.idx (by have := hlt s; omega : itF to s i < w * h)
            have key : ∀ s, s ≤ t → ord.idxOf (itF to s i) + s ≤ ord.idxOf i := fun s => by
              induction s with
              | zero => intro _; exact Nat.le_refl _
              | succ s ih =>
                intro hs
                have h1 := ih (by omega)
                have h2 := F.pos (itF to s i) (by have := hlt s; omega) (hst.1 s (by omega))
                show ord.idxOf (to (itF to s i)) + (s + 1) ≤ _
                omega
            have h1 := key t (Nat.le_refl _)
            have h2 : ord.idxOf i < w * h := hx 0
            omega
          (repeat' (first | exact trivial | exact fun h => h | refine And.intro ?_ ?_ | (intro hb; first | (simp at hb; done) | (simp at hb) | skip) | omega | exact rfl | exact Nat.le_refl _ | (show _ + 1 ≤ 4294967296; omega) | (dsimp only; omega) | (show (_ : Int) ≤ (_ : Int); omega) | (show _ < List.length _; simp only [List.length_set, List.length_append, List.length_take]; omega) | (show wantB _ _ = true; simp; done) | (show wantB _ _ = true; simp; omega) | (show (_ : Bool) = _; simp_all; done) | (exfalso; omega) | refine aRegion_auto (by decide +kernel) ?_ | refine ⟨_, _, REnt.drop ⟨rfl, rfl⟩, ?_⟩ | fail))
          refine acall_frame0 rfl (isRim_any _ a R i (by omega) _ ?_)
          (repeat' (first | exact trivial | exact fun h => h | refine And.intro ?_ ?_ | (intro hb; first | (simp at hb; done) | (simp at hb) | skip) | omega | exact rfl | exact Nat.le_refl _ | (show _ + 1 ≤ 4294967296; omega) | (dsimp only; omega) | (show (_ : Int) ≤ (_ : Int); omega) | (show _ < List.length _; simp only [List.length_set, List.length_append, List.length_take]; omega) | (show wantB _ _ = true; simp; done) | (show wantB _ _ = true; simp; omega) | (show (_ : Bool) = _; simp_all; done) | (exfalso; omega) | refine aRegion_auto (by decide +kernel) ?_ | refine ⟨_, _, REnt.drop ⟨rfl, rfl⟩, ?_⟩ | fail))
          refine ⟨[(0, .fptr RasT a), (7, .fz int (tot - rimS w h ga (i + 1))), (9, .ptr 0 0), (11, .fz (.list int) (lst n ga)), (13, .fz int i)], [bF], Ent.sub (by (repeat' (first | exact rfl | refine cons_eq ?_ ?_))) (by
            (repeat' (first | exact trivial | exact rfl | refine And.intro ?_ ?_))
            refine congrArg (AV.fz int) (?_ : tot - rimS w h ga i - List.getD (lst n ga) (Int.toNat (i : Int)) int.dft = tot - rimS w h ga (i + 1))
            rw [q1, eRS, if_pos hb]; omega), ?_⟩
          rotate_left
          refine ⟨[(0, .fptr RasT a), (7, .fz int (tot - rimS w h ga (i + 1))), (9, .ptr 0 0), (11, .fz (.list int) (lst n ga)), (13, .fz int i)], [bF], Ent.sub (by (repeat' (first | exact rfl | refine cons_eq ?_ ?_))) (by
            (repeat' (first | exact trivial | exact rfl | refine And.intro ?_ ?_))
            refine congrArg (AV.fz int) (?_ : tot - rimS w h ga i = tot - rimS w h ga (i + 1))
            rw [eRS, if_neg hb]; omega), ?_⟩
          rotate_left
          all_goals
            (repeat' (first | exact trivial | exact fun h => h | refine And.intro ?_ ?_ | (intro hb; first | (simp at hb; done) | (simp at hb) | skip) | omega | exact rfl | exact Nat.le_refl _ | (show _ + 1 ≤ 4294967296; omega) | (dsimp only; omega) | (show (_ : Int) ≤ (_ : Int); omega) | (show _ < List.length _; simp only [List.length_set, List.length_append, List.length_take]; omega) | (show wantB _ _ = true; simp; done) | (show wantB _ _ = true; simp; omega) | (show (_ : Bool) = _; simp_all; done) | (exfalso; omega) | refine aRegion_auto (by decide +kernel) ?_ | refine ⟨_, _, REnt.drop ⟨rfl, rfl⟩, ?_⟩ | fail))
            refine acall_conv [.dat RasT, .keep] _ _ _ rfl trivial (acall_frame0 rfl (way_twoE E a (i : Int) (by omega) _ ?_))
            rw [eW1, eW2]
            (repeat' (first | exact trivial | exact fun h => h | refine And.intro ?_ ?_ | (intro hb; first | (simp at hb; done) | (simp at hb) | skip) | omega | exact rfl | exact Nat.le_refl _ | (show _ + 1 ≤ 4294967296; omega) | (dsimp only; omega) | (show (_ : Int) ≤ (_ : Int); omega) | (show _ < List.length _; simp only [List.length_set, List.length_append, List.length_take]; omega) | (show wantB _ _ = true; simp; done) | (show wantB _ _ = true; simp; omega) | (show (_ : Bool) = _; simp_all; done) | (exfalso; omega) | refine aRegion_auto (by decide +kernel) ?_ | refine ⟨_, _, REnt.drop ⟨rfl, rfl⟩, ?_⟩ | fail))
            · exfalso
              rcases hb with e | e
              · exact hWn e
              · exact e hW0'
            refine acall_frame0 rfl (acall_arg (isRim_any _ a R (itF to t i) (by omega) _ ?_) (by
              show [AV.fptr RasT a, AV.fz int ((itF to t i : Nat) : Int)] = [AV.fptr RasT a, AV.fz int (List.getD (wyL to i t) (Int.toNat ((((wyL to i t).length : Nat) : Int) - 1)) int.dft)]
              rw [hWt']))
            rw [decide_eq_true hrimt]
            (repeat' (first | exact trivial | exact fun h => h | refine And.intro ?_ ?_ | (intro hb; first | (simp at hb; done) | (simp at hb) | skip) | omega | exact rfl | exact Nat.le_refl _ | (show _ + 1 ≤ 4294967296; omega) | (dsimp only; omega) | (show (_ : Int) ≤ (_ : Int); omega) | (show _ < List.length _; simp only [List.length_set, List.length_append, List.length_take]; omega) | (show wantB _ _ = true; simp; done) | (show wantB _ _ = true; simp; omega) | (show (_ : Bool) = _; simp_all; done) | (exfalso; omega) | refine aRegion_auto (by decide +kernel) ?_ | refine ⟨_, _, REnt.drop ⟨rfl, rfl⟩, ?_⟩ | fail))
            refine ⟨Nat, fun k => ⟨[(0, .fptr RasT a), (7, .fz int (tot - rimS w h ga (i + 1))), (9, .ptr 0 0), (11, .fz (.list int) (lst n ga)), (13, .fz int i), (15, .fz (.list int) (wyL to i t)), (18, .fz int k)], [bF]⟩, fun k => 1 ≤ k ∧ k ≤ t + 1, fun k => t + 1 - k, 1, ⟨Nat.le_refl _, by omega⟩, Ent.sub ?_ ?_, ?_⟩
            · (repeat' (first | exact rfl | refine cons_eq ?_ ?_))
            · (repeat' (first | exact trivial | exact rfl | refine And.intro ?_ ?_))
            intro k ⟨hk1, hk⟩
            by_cases hkt : k < t + 1
            · obtain ⟨s, hs⟩ : ∃ s, k = s + 1 := ⟨k - 1, by omega⟩
              have w1 : List.getD (wyL to i t) (Int.toNat ((k : Int) - 1)) int.dft = ((itF to s i : Nat) : Int) := by
                rw [hs, show (((s + 1 : Nat) : Int) - 1) = (s : Int) by omega, Int.toNat_natCast]
                exact lst_at (fun s => ((itF to s i : Nat) : Int)) (by omega : s < t + 1)
              have w2 : List.getD (wyL to i t) (Int.toNat (k : Int)) int.dft = ((itF to (s + 1) i : Nat) : Int) := by
                rw [hs, Int.toNat_natCast]
                exact lst_at (fun s => ((itF to s i : Nat) : Int)) (by omega : s + 1 < t + 1)
              have l1 := hlt s
              have l2 := hlt (s + 1)
              have hne := hst.1 s (by omega)
              have htc : touchN w (itF to s i) (itF to (s + 1) i) := touchN_symm (F.touch _ (by omega) hne)
              have hdn := GF.down (itF to s i) (by omega)
              have hdn' : fill (itF to (s + 1) i) ≤ fill (itF to s i) := hdn
              have f1 : List.getD (lst n fill) (Int.toNat (List.getD (wyL to i t) (Int.toNat ((k : Int) - 1)) int.dft)) int.dft = fill (itF to s i) := by rw [w1, Int.toNat_natCast]; exact lst_at _ l1
              have f2 : List.getD (lst n fill) (Int.toNat (List.getD (wyL to i t) (Int.toNat (k : Int)) int.dft)) int.dft = fill (itF to (s + 1) i) := by rw [w2, Int.toNat_natCast]; exact lst_at _ l2
              have f3 : (lst n fill)[Int.toNat ((wyL to i t)[k - 1]?.getD int.dft)]?.getD int.dft = fill (itF to s i) := by
                have : (wyL to i t)[k - 1]?.getD int.dft = ((itF to s i : Nat) : Int) := by rw [hs]; exact lst_get (fun s => ((itF to s i : Nat) : Int)) (by omega : s < t + 1)
                rw [this, Int.toNat_natCast]; exact lst_get _ l1
              have f4 : (lst n fill)[Int.toNat ((wyL to i t)[k]?.getD int.dft)]?.getD int.dft = fill (itF to (s + 1) i) := by
                have : (wyL to i t)[k]?.getD int.dft = ((itF to (s + 1) i : Nat) : Int) := by rw [hs]; exact lst_get (fun s => ((itF to s i : Nat) : Int)) (by omega : s + 1 < t + 1)
                rw [this, Int.toNat_natCast]; exact lst_get _ l2
              (repeat' (first | exact trivial | exact fun h => h | refine And.intro ?_ ?_ | (intro hb; first | (simp at hb; done) | (simp at hb) | skip) | omega | exact rfl | exact Nat.le_refl _ | (show _ + 1 ≤ 4294967296; omega) | (dsimp only; omega) | (show (_ : Int) ≤ (_ : Int); omega) | (show _ < List.length _; simp only [List.length_set, List.length_append, List.length_take]; omega) | (show wantB _ _ = true; simp; done) | (show wantB _ _ = true; simp; omega) | (show (_ : Bool) = _; simp_all; done) | (exfalso; omega) | refine aRegion_auto (by decide +kernel) ?_ | refine ⟨_, _, REnt.drop ⟨rfl, rfl⟩, ?_⟩ | fail))
              apply exEff
              · refine acall_frame0 rfl (acall_arg (touch_any _ a R (itF to s i) (itF to (s + 1) i) (by omega) (by omega) _ ?_) (by
                  show [AV.fptr RasT a, AV.fz int ((itF to s i : Nat) : Int), AV.fz int ((itF to (s + 1) i : Nat) : Int)] = [AV.fptr RasT a, AV.fz int (List.getD (wyL to i t) (Int.toNat ((k : Int) - 1)) int.dft), AV.fz int (List.getD (wyL to i t) (Int.toNat (k : Int)) int.dft)]
                  rw [w1, w2]))
                exact ⟨rfl, rfl⟩
              rw [decide_eq_true htc]
              (repeat' (first | exact trivial | exact fun h => h | refine And.intro ?_ ?_ | (intro hb; first | (simp at hb; done) | (simp at hb) | skip) | omega | exact rfl | exact Nat.le_refl _ | (show _ + 1 ≤ 4294967296; omega) | (dsimp only; omega) | (show (_ : Int) ≤ (_ : Int); omega) | (show _ < List.length _; simp only [List.length_set, List.length_append, List.length_take]; omega) | (show wantB _ _ = true; simp; done) | (show wantB _ _ = true; simp; omega) | (show (_ : Bool) = _; simp_all; done) | (exfalso; omega) | refine aRegion_auto (by decide +kernel) ?_ | refine ⟨_, _, REnt.drop ⟨rfl, rfl⟩, ?_⟩ | fail))
              refine ⟨k + 1, ⟨by show 1 ≤ k + 1; omega, by show k + 1 ≤ t + 1; omega⟩, by show t + 1 - (k + 1) < t + 1 - k; omega, Ent.sub ?_ ?_⟩
              · (repeat' (first | exact rfl | refine cons_eq ?_ ?_))
              · (repeat' (first | exact trivial | exact rfl | refine And.intro ?_ ?_))
            · have hke : k = t + 1 := by omega
              (repeat' (first | exact trivial | exact fun h => h | refine And.intro ?_ ?_ | (intro hb; first | (simp at hb; done) | (simp at hb) | skip) | omega | exact rfl | exact Nat.le_refl _ | (show _ + 1 ≤ 4294967296; omega) | (dsimp only; omega) | (show (_ : Int) ≤ (_ : Int); omega) | (show _ < List.length _; simp only [List.length_set, List.length_append, List.length_take]; omega) | (show wantB _ _ = true; simp; done) | (show wantB _ _ = true; simp; omega) | (show (_ : Bool) = _; simp_all; done) | (exfalso; omega) | refine aRegion_auto (by decide +kernel) ?_ | refine ⟨_, _, REnt.drop ⟨rfl, rfl⟩, ?_⟩ | fail))
              · refine acall_frame0 rfl (acall_arg (wet_any _ a R hn i hin (fill i - 1) (fun j _ => by have := hhi j; exact ⟨by show _ ≤ List.getD a.2.2 j 0; omega, by show List.getD a.2.2 j 0 ≤ _; omega⟩) (fun m => hts a m ≤ fill i - 1 ∧ fill i ≤ fill m) (fun h1 => ⟨h1, Int.le_refl _⟩) (fun j m hj hm htt h1 h2 => ⟨h1, by have := GF.near j m (by omega) (by omega) htt; omega⟩) _ ?_) (by
                  show [AV.fptr RasT a, AV.fz int (i : Int), AV.fz int (fill i - 1), AV.fz int 1, AV.fz .bool true] = [AV.fptr RasT a, AV.fz int (i : Int), AV.fz int (List.getD (lst n fill) (Int.toNat (i : Int)) int.dft - 1), AV.fz int 1, AV.fz .bool true]
                  rw [q2]))
                intro f hf
                have hLw := lsb_len n f
                (repeat' (first | exact trivial | exact fun h => h | refine And.intro ?_ ?_ | (intro hb; first | (simp at hb; done) | (simp at hb) | skip) | omega | exact rfl | exact Nat.le_refl _ | (show _ + 1 ≤ 4294967296; omega) | (dsimp only; omega) | (show (_ : Int) ≤ (_ : Int); omega) | (show _ < List.length _; simp only [List.length_set, List.length_append, List.length_take]; omega) | (show wantB _ _ = true; simp; done) | (show wantB _ _ = true; simp; omega) | (show (_ : Bool) = _; simp_all; done) | (exfalso; omega) | refine aRegion_auto (by decide +kernel) ?_ | refine ⟨_, _, REnt.drop ⟨rfl, rfl⟩, ?_⟩ | fail))
                refine ⟨Nat, fun m => ⟨[(0, .fptr RasT a), (7, .fz int (tot - rimS w h ga (i + 1))), (9, .ptr 0 0), (11, .fz (.list int) (lst n ga)), (13, .fz int i), (20, .ref 1 0 n), (21, .fz int m)], [bF, .row .bool (lsb n f)]⟩, fun m => m ≤ n, fun m => n - m, 0, Nat.zero_le _, Ent.sub ?_ ?_, ?_⟩
                · (repeat' (first | exact rfl | refine cons_eq ?_ ?_))
                · (repeat' (first | exact trivial | exact rfl | refine And.intro ?_ ?_))
                intro m hm
                by_cases hmn : m < n
                · have r1 : (lsb n f)[m]?.getD Ty.bool.dft = f m := lsb_get _ hmn
                  (repeat' (first | exact trivial | exact fun h => h | refine And.intro ?_ ?_ | (intro hb; first | (simp at hb; done) | (simp at hb) | skip) | omega | exact rfl | exact Nat.le_refl _ | (show _ + 1 ≤ 4294967296; omega) | (dsimp only; omega) | (show (_ : Int) ≤ (_ : Int); omega) | (show _ < List.length _; simp only [List.length_set, List.length_append, List.length_take]; omega) | (show wantB _ _ = true; simp; done) | (show wantB _ _ = true; simp; omega) | (show (_ : Bool) = _; simp_all; done) | (exfalso; omega) | refine aRegion_auto (by decide +kernel) ?_ | refine ⟨_, _, REnt.drop ⟨rfl, rfl⟩, ?_⟩ | fail))
                  refine acall_frame0 rfl (isRim_any _ a R m (by omega) _ ?_)
                  (repeat' (first | exact trivial | exact fun h => h | refine And.intro ?_ ?_ | (intro hb; first | (simp at hb; done) | (simp at hb) | skip) | omega | exact rfl | exact Nat.le_refl _ | (show _ + 1 ≤ 4294967296; omega) | (dsimp only; omega) | (show (_ : Int) ≤ (_ : Int); omega) | (show _ < List.length _; simp only [List.length_set, List.length_append, List.length_take]; omega) | (show wantB _ _ = true; simp; done) | (show wantB _ _ = true; simp; omega) | (show (_ : Bool) = _; simp_all; done) | (exfalso; omega) | refine aRegion_auto (by decide +kernel) ?_ | refine ⟨_, _, REnt.drop ⟨rfl, rfl⟩, ?_⟩ | fail))
                  · exfalso
                    obtain ⟨z1, z2⟩ := hf m hmn (r1.symm.trans hb.1)
                    have z3 := GF.rim m (by omega) hb.2
                    omega
                  · refine ⟨m + 1, by show m + 1 ≤ n; omega, by show n - (m + 1) < n - m; omega, Ent.sub ?_ ?_⟩
                    · (repeat' (first | exact rfl | refine cons_eq ?_ ?_))
                    · (repeat' (first | exact trivial | exact rfl | refine And.intro ?_ ?_))
                · have hme : m = n := by omega
                  (repeat' (first | exact trivial | exact fun h => h | refine And.intro ?_ ?_ | (intro hb; first | (simp at hb; done) | (simp at hb) | skip) | omega | exact rfl | exact Nat.le_refl _ | (show _ + 1 ≤ 4294967296; omega) | (dsimp only; omega) | (show (_ : Int) ≤ (_ : Int); omega) | (show _ < List.length _; simp only [List.length_set, List.length_append, List.length_take]; omega) | (show wantB _ _ = true; simp; done) | (show wantB _ _ = true; simp; omega) | (show (_ : Bool) = _; simp_all; done) | (exfalso; omega) | refine aRegion_auto (by decide +kernel) ?_ | refine ⟨_, _, REnt.drop ⟨rfl, rfl⟩, ?_⟩ | fail))
                  refine ⟨i + 1, by show i + 1 ≤ n; omega, by show n - (i + 1) < n - i; omega, Ent.ren [0] rfl ?_ ?_⟩
                  · (repeat' (first | exact trivial | exact rfl | refine And.intro ?_ ?_))
                  · (repeat' (first | exact trivial | exact rfl | refine And.intro ?_ ?_))
              · refine ⟨i + 1, by show i + 1 ≤ n; omega, by show n - (i + 1) < n - i; omega, Ent.sub ?_ ?_⟩
                · (repeat' (first | exact rfl | refine cons_eq ?_ ?_))
                · (repeat' (first | exact trivial | exact rfl | refine And.intro ?_ ?_))
        · have hie : i = n := by omega
          (repeat' (first | exact trivial | exact fun h => h | refine And.intro ?_ ?_ | (intro hb; first | (simp at hb; done) | (simp at hb) | skip) | omega | exact rfl | exact Nat.le_refl _ | (show _ + 1 ≤ 4294967296; omega) | (dsimp only; omega) | (show (_ : Int) ≤ (_ : Int); omega) | (show _ < List.length _; simp only [List.length_set, List.length_append, List.length_take]; omega) | (show wantB _ _ = true; simp; done) | (show wantB _ _ = true; simp; omega) | (show (_ : Bool) = _; simp_all; done) | (exfalso; omega) | refine aRegion_auto (by decide +kernel) ?_ | refine ⟨_, _, REnt.drop ⟨rfl, rfl⟩, ?_⟩ | fail))
          refine kbl hK ?_
          rw [hie, hRain]
          simp
    · (repeat' (first | exact trivial | exact fun h => h | refine And.intro ?_ ?_ | (intro hb; first | (simp at hb; done) | (simp at hb) | skip) | omega | exact rfl | exact Nat.le_refl _ | (show _ + 1 ≤ 4294967296; omega) | (dsimp only; omega) | (show (_ : Int) ≤ (_ : Int); omega) | (show _ < List.length _; simp only [List.length_set, List.length_append, List.length_take]; omega) | (show wantB _ _ = true; simp; done) | (show wantB _ _ = true; simp; omega) | (show (_ : Bool) = _; simp_all; done) | (exfalso; omega) | refine aRegion_auto (by decide +kernel) ?_ | refine ⟨_, _, REnt.drop ⟨rfl, rfl⟩, ?_⟩ | fail))
      exact hK
  · rw [decide_eq_false hl]
    (repeat' (first | exact trivial | exact fun h => h | refine And.intro ?_ ?_ | (intro hb; first | (simp at hb; done) | (simp at hb) | skip) | omega | exact rfl | exact Nat.le_refl _ | (show _ + 1 ≤ 4294967296; omega) | (dsimp only; omega) | (show (_ : Int) ≤ (_ : Int); omega) | (show _ < List.length _; simp only [List.length_set, List.length_append, List.length_take]; omega) | (show wantB _ _ = true; simp; done) | (show wantB _ _ = true; simp; omega) | (show (_ : Bool) = _; simp_all; done) | (exfalso; omega) | refine aRegion_auto (by decide +kernel) ?_ | refine ⟨_, _, REnt.drop ⟨rfl, rfl⟩, ?_⟩ | fail))
    exact hK
theorem drainAlways_nil {E : Errs} (rain : List Int) (K : AV → List AO → Prop) (hK : K (.fz .bool true) []) :
    ACall Tryd.prog (GE E) 3 [.fz .raw (.pointer none), .fz (.list int) rain] [] K := by
  refine acall_mk (E := envAt (GE E) 258 0) (envOk _ _ _) Tryd.func3 rfl rfl rfl rfl rfl ?_
  (repeat' (first | exact trivial | exact fun h => h | refine And.intro ?_ ?_ | (intro hb; first | (simp at hb; done) | (simp at hb) | skip) | omega | exact rfl | exact Nat.le_refl _ | (show _ + 1 ≤ 4294967296; omega) | (dsimp only; omega) | (show (_ : Int) ≤ (_ : Int); omega) | (show _ < List.length _; simp only [List.length_set, List.length_append, List.length_take]; omega) | (show wantB _ _ = true; simp; done) | (show wantB _ _ = true; simp; omega) | (show (_ : Bool) = _; simp_all; done) | (exfalso; omega) | refine aRegion_auto (by decide +kernel) ?_ | refine ⟨_, _, REnt.drop ⟨rfl, rfl⟩, ?_⟩ | fail))
  refine acall_frame0 rfl (drains_anyE E _ ?_)
  (repeat' (first | exact trivial | exact fun h => h | refine And.intro ?_ ?_ | (intro hb; first | (simp at hb; done) | (simp at hb) | skip) | omega | exact rfl | exact Nat.le_refl _ | (show _ + 1 ≤ 4294967296; omega) | (dsimp only; omega) | (show (_ : Int) ≤ (_ : Int); omega) | (show _ < List.length _; simp only [List.length_set, List.length_append, List.length_take]; omega) | (show wantB _ _ = true; simp; done) | (show wantB _ _ = true; simp; omega) | (show (_ : Bool) = _; simp_all; done) | (exfalso; omega) | refine aRegion_auto (by decide +kernel) ?_ | refine ⟨_, _, REnt.drop ⟨rfl, rfl⟩, ?_⟩ | fail))
  refine acall_frame0 rfl (small80_nil _ _ ?_)
  (repeat' (first | exact trivial | exact fun h => h | refine And.intro ?_ ?_ | (intro hb; first | (simp at hb; done) | (simp at hb) | skip) | omega | exact rfl | exact Nat.le_refl _ | (show _ + 1 ≤ 4294967296; omega) | (dsimp only; omega) | (show (_ : Int) ≤ (_ : Int); omega) | (show _ < List.length _; simp only [List.length_set, List.length_append, List.length_take]; omega) | (show wantB _ _ = true; simp; done) | (show wantB _ _ = true; simp; omega) | (show (_ : Bool) = _; simp_all; done) | (exfalso; omega) | refine aRegion_auto (by decide +kernel) ?_ | refine ⟨_, _, REnt.drop ⟨rfl, rfl⟩, ?_⟩ | fail))
  exact hK
end Go.Proofs.YtepkknjncpbahaaDoor
/-
  Arguments read again behind a call that leaves old memory alone; a slice of points opened.
-/
namespace Go.Proofs.YtepkknjncpbahaaDoor
open Go Go.ChangeShapes Go.WideShapes Go.ChangeAt Go.RowKit
theorem trodAll_below {H : Type} {enc : TypeId × Value → H} {P : Program} (hl : laidOutB P = true) {W W' : World} (hb : Below W.heap.size W W') :
    ∀ (ts : List TypeId) (vs : List Value) (ds : List (DataW H)) (ps : List MemPlace), (∀ t ∈ ts, P.readableRec t = true ∧ t < P.types.size) →
      DataW.TrodAll enc P W 0 (fun _ => true) true ts vs ds ps → (∀ x ∈ ps, x.block < W.heap.size) →
      DataW.TrodAll enc P W' 0 (fun b => decide (b < W.heap.size)) true ts vs ds ps
  | [], [], [], ps, _, h, _ => h
  | [], [], _ :: _, _, _, h, _ => h.elim
  | [], _ :: _, _, _, _, h, _ => h.elim
  | _ :: _, [], _, _, _, h, _ => h.elim
  | _ :: _, _ :: _, [], _, _, h, _ => h.elim
  | t :: ts, v :: vs, d :: ds, ps, hr, h, hlt => by
    obtain ⟨p, q, h1, h2, rfl⟩ := h
    refine ⟨p, q, Below.trod hl (hr t (List.mem_cons_self ..)).1 (hr t (List.mem_cons_self ..)).2 h1 hb (fun x hx => hlt x (List.mem_append.2 (.inl hx))), ?_, rfl⟩
    exact trodAll_below hl hb ts vs ds q (fun t ht => hr t (List.mem_cons_of_mem _ ht)) h2 (fun x hx => hlt x (List.mem_append.2 (.inr hx)))
end Go.Proofs.YtepkknjncpbahaaDoor
/-
  DrainAlways answers true, whatever it is asked (no condition).
-/
namespace Go.Proofs.YtepkknjncpbahaaDoor.drainAlways
open Go Go.ChangeShapes Go.WideShapes Go.ChangeAt Go.RowKit Go.Ab
set_option maxRecDepth 100000
theorem own : ownKnob Tryd.prog.godebug = none := by kernel_rfl
theorem laidOut : laidOutB Tryd.prog = true := by kernel_rfl
theorem star : "*" ++ "errors.errorString" = "*errors.errorString" := by decide
theorem names_at (u : TypeId) (h : Tryd.prog.typeName? 3 u = some "*errors.errorString") : u = 171 :=
  typeName_ptr_named (nm := "errors.errorString") (by rw [star]; kernel_rfl) (by kernel_rfl) (by decide) u (by rw [star]; exact h)
theorem cells_es : Tryd.prog.cellsOf 194 = 1 := by kernel_rfl
theorem cells_str : Tryd.prog.cellsOf 9 = 1 := by kernel_rfl
theorem globs {W : World} (h : laidMetH Tryd.prog Rows.drainAlwaysRow.laid W) : ∃ E : Errs, ∀ g v, gk (GE E) g = some v → Glo0 W g v := by
  have h' : laidMet Tryd.prog Rows.drainAlwaysRow.laid W := h
  obtain ⟨ps, hv, hn, hall⟩ := h'
  obtain ⟨al, h1, h2, h3, _⟩ := laid_errs names_at Tryd.underlying171 Tryd.underlying194 rfl rfl Tryd.underlying9 cells_es cells_str
    [("mercator/api.ErrBound", _), ("mercator/api.ErrShape", _), ("mercator/api.ErrRange", _)] [3, 0, 1] ps hv hn hall (by kernel_rfl)
    (fun g hg => ⟨30, _, by
      have : ([3, 0, 1].all fun g => (Tryd.prog.globals[g]?).map (·.type) == some 30) = true := by kernel_rfl
      simpa using List.all_eq_true.1 this g hg, Tryd.underlying30⟩)
  obtain ⟨a0, a1, a2, rfl⟩ : ∃ a0 a1 a2, al = [a0, a1, a2] := by
    match al, h1 with
    | [a0, a1, a2], _ => exact ⟨a0, a1, a2, rfl⟩
  refine ⟨⟨a0, a0, a1, a2, a0, a0, a0, a0⟩, fun g v hg => ?_⟩
  unfold GE gk at hg
  split at hg
  · rename_i e; subst e; cases hg; exact h3 1 _ _ rfl rfl
  unfold gk at hg
  split at hg
  · rename_i e; subst e; cases hg; exact h3 2 _ _ rfl rfl
  unfold gk at hg
  split at hg
  · rename_i e; subst e; cases hg; exact h3 0 _ _ rfl rfl
  · cases hg
theorem lifted (os : Os) (started : os.Started) (H : Type) (enc : TypeId × Value → H) :
    ReturnsInHanded {} Tryd.checked os 3 .any (fun w args => (Rows.drainAlwaysSpec.pre enc Tryd.prog Tryd.f3 [] false w args ∧ laidMetH Tryd.prog Rows.drainAlwaysRow.laid w) ∧ sizedMet enc Tryd.prog Tryd.f3 (OpenSpec.ofChange Rows.drainAlwaysSpec) false w args)
      (Rows.drainAlwaysSpec.post enc Tryd.prog Tryd.f3 false true false false) := by
  refine returnsInHanded_of_change_and (C := Tryd.checked) (X := fun w _ => laidMetH Tryd.prog Rows.drainAlwaysRow.laid w) (fun _ _ _ hh h => h.of_heap hh) own started (by kernel_rfl) Tryd.func3
    (ChangeSpec.witness_shaped (enc := enc) (C := Tryd.checked) (os := os) (X := fun w _ => laidMetH Tryd.prog Rows.drainAlwaysRow.laid w) false (World.doorLaid Tryd.prog 400 os) #[.pointer none, .slice none 0 0] 8 rfl (World.shaped_of_RefB (by kernel_rfl) (by kernel_rfl)) (by kernel_rfl) (by kernel_rfl) (by kernel_rfl)
      (laidMetH_of_parts3 (fuel := 8) (laidMet_of_run' 8 (by kernel_rfl) (by kernel_rfl)) (by kernel_rfl) (by kernel_rfl))) ?_
  intro W base args ds gs before hval0 hW _ _ hL _
  have hval : ∀ (j : Nat) t v, Tryd.f3.params[j]? = some t → args[j]? = some v → Value.okWide Tryd.prog W .any base t v := hval0
  have hW' := hW
  obtain ⟨p, q, hA0, hV, rfl, hfz, hnd⟩ := hW
  have hA : DataW.TrodAll enc Tryd.prog W 0 (fun _ => true) true Tryd.f3.params.toList args.toList ds p := hA0
  obtain ⟨rfl, rfl⟩ := trodVars_none hV
  simp only [List.append_nil] at hW'
  have hAll : ∀ W', Below W.heap.size W W' → DataW.TrodAll enc Tryd.prog W' 0 (fun b => decide (b < W.heap.size)) true Tryd.f3.params.toList args.toList ds p :=
    fun W' hb => trodAll_below laidOut hb _ _ _ _ (by rw [Tryd.params3]; exact of_decide_eq_true (by kernel_rfl)) hA (fun x hx => hW'.lt x hx)
  rw [Tryd.params3] at hA hval
  obtain ⟨v0, vs0, d0, ds0, p0, q0, hargs, rfl, rfl, h0, t0⟩ := trodAll_cons hA
  obtain ⟨v1, vs1, d1, ds1, p1, q1, rfl, rfl, rfl, h1, t1⟩ := trodAll_cons t0
  obtain ⟨rfl, rfl, rfl⟩ := trodAll_nil t1
  obtain rfl : args = #[v0, v1] := by cases args; simp_all
  clear hA0 hval0
  obtain ⟨E, hE⟩ := globs hL
  have o0 := open_ptr (n := 4) (ty := RasT) tabOk (show tptrTo tab 22 = some 28 by kernel_rfl) (by kernel_rfl) (GE E) (hval 0 _ v0 rfl rfl) h0
  obtain ⟨y1, r1, b1⟩ := open_val (n := 3) (ty := (.list int)) tabOk (by kernel_rfl) (GE E) (hval 1 _ v1 rfl rfl) h1
  have fin : Calls Tryd.prog 3 #[v0, v1] W fun e w' => e = .returned (.bool true) ∧ Below W.heap.size W w' := by
    have hl1 : y1.length ≤ 9223372036854775807 := by have := b1.1; unfold maxLen at this; omega
    rcases o0 with rfl | ⟨y0, r0, b0⟩
    · exact acall_true (vs := [.pointer none, v1]) (drainAlways_nil y1 _ rfl) hE ⟨_, _, rfl, (rel_raw rfl).2 rfl, _, _, rfl, r1, rfl⟩
    · have hl0 : y0.2.2.length ≤ 9223372036854775807 := by have := b0.2.2.1; unfold maxLen at this; omega
      exact acall_true (vs := [v0, v1]) (drainAlways_some E y0 y1 hl0 hl1 _ rfl) hE ⟨_, _, rfl, r0, _, _, rfl, r1, rfl⟩
  refine fin.mono fun e W' ⟨he, hg⟩ => ?_
  subst he
  exact ⟨_, rfl, _, _, _, [], _, [], hW', trodAll_mk1 (shut_bool Tryd.underlying4 _), hAll W' hg, rfl, hg.frame _, fun h => by cases h⟩
theorem row : Rows.DrainAlwaysSaid :=
  OpenClaim.holds_of_wide 3 Tryd.f3 rfl rfl rfl rfl rfl rfl rfl ⟨rfl, rfl, rfl, rfl, rfl⟩ rfl rfl rfl rfl rfl (by kernel_rfl) Tryd.func3 (by kernel_rfl)
    (of_decide_eq_true (by kernel_rfl)) (by unfold Func.isWrapper; first | (rw [if_pos (by decide +kernel)]; kernel_rfl) | (rw [if_neg (by decide +kernel)]; exact ⟨rfl, rfl⟩))
    (fun os started H enc _ => lifted os started H enc)
theorem proved : Rows.DrainAlwaysCardSaid :=
  Claim7.holds_tied_plain_at .later [] [.sentinel, .sentinel, .sentinel] true (true, "2c6a993363151e49d24002e89860878e7966fcc3637518dfcc0da44657d94591") true
    row (fun _ h => by cases h) (by kernel_rfl) (fun _ h => by cases h) drainAlways_row_tie rfl ⟨rfl, rfl⟩ (by kernel_rfl) rfl
    (fun f fn hf hfn => by
      obtain rfl : f = 3 := Option.some.inj ((show Tryd.prog.funcNamed "mercator/mercatorlaw4.DrainAlways" = some 3 by kernel_rfl).symm.trans hf) |>.symm
      obtain rfl : fn = Tryd.f3 := (Option.some.inj (Tryd.func3.symm.trans hfn)).symm
      exact ⟨by kernel_rfl, fun j t ht => by
        rw [Tryd.params3] at ht
        have hm : t ∈ [22, 23] := by simpa using Array.mem_of_getElem? ht
        have hall : ([22, 23].all fun u => !Tryd.prog.wantsStandIn u) = true := by kernel_rfl
        exact (show Tryd.prog.wantsStandIn t = false by simpa using List.all_eq_true.1 hall t hm)⟩)
    (by kernel_rfl)
end Go.Proofs.YtepkknjncpbahaaDoor.drainAlways
