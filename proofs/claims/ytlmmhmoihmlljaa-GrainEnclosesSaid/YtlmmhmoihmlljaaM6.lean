/-
  Whole numbers of any size: taken off, compared.
-/
import Derived.Test.YtlmmhmoihmlljaaM5
namespace Go.Proofs.Ytlmmhmoihmlljaa
open Go Go.Ab Go.RowKit
set_option maxRecDepth 100000
set_option maxHeartbeats 4000000 in
theorem bigSubA (G : List (Nat × Value)) (a b : List Int) (ha : Bg.Dg a) (hb0 : Bg.Dg b) (la : a.length ≤ 100000) (lb : b.length ≤ 100000) (hle : Bg.vl b ≤ Bg.vl a) (K : AV → List AO → Prop) (hK : K (.fz LI (Bg.dg (Bg.vl a - Bg.vl b).toNat)) []) :
    ACall Try.prog G 80 [.fz LI a, .fz LI b] [] K := by
  refine acall_mk (E := envAt G 41 0) (envOk _ _ _) Try.func80 rfl rfl rfl rfl rfl ?_
  (repeat' (first | exact trivial | exact fun h => h | refine And.intro ?_ ?_ | (intro hb; first | (simp at hb; done) | (simp at hb) | skip) | omega | exact rfl | exact Nat.le_refl _ | (show _ + 1 ≤ 4294967296; omega) | (dsimp only; omega) | (show (_ : Int) ≤ (_ : Int); omega) | (show _ < List.length _; simp only [List.length_set, List.length_append, List.length_take]; omega) | (show wantB _ _ = true; simp; done) | (show wantB _ _ = true; simp; omega) | (show (_ : Bool) = _; simp_all; done) | (exfalso; omega) | refine aRegion_auto (by decide +kernel) ?_ | fail))
  refine ⟨List Int × Int × Nat, fun x => ⟨[(0, .fz LI a), (1, .fz LI b), (5, .ref 0 0 x.1.length), (6, .fz int x.2.1), (7, .fz int x.2.2)], [.row int x.1]⟩, fun x => x.1.length = x.2.2 ∧ Bg.Dg x.1 ∧ (0 ≤ x.2.1 ∧ x.2.1 ≤ 1) ∧ x.2.2 ≤ a.length ∧ Bg.vl x.1 + 1000000 ^ x.2.2 * (Bg.vl (a.drop x.2.2) - Bg.vl (b.drop x.2.2) - x.2.1) = Bg.vl a - Bg.vl b, fun x => a.length - x.2.2, ([], 0, 0), ⟨rfl, (fun d hd => by cases hd), ⟨Int.le_refl _, by decide⟩, Nat.zero_le _, by simp [Bg.vl]⟩, (Ent.nil 5 int rfl).trans (Ent.sub rfl ?_), ?_⟩
  · (repeat' (first | exact trivial | exact rfl | refine And.intro ?_ ?_))
  rintro ⟨out, br, i⟩ ⟨hol, hod, ⟨c0, c1⟩, hi, hv⟩
  have hol : out.length = i := hol
  have hod : Bg.Dg out := hod
  have c0 : 0 ≤ br := c0
  have c1 : br ≤ 1 := c1
  have hi : i ≤ a.length := hi
  have hv : Bg.vl out + 1000000 ^ i * (Bg.vl (a.drop i) - Bg.vl (b.drop i) - br) = Bg.vl a - Bg.vl b := hv
  show awp _ _ _ ⟨[(0, .fz LI a), (1, .fz LI b), (5, .ref 0 0 out.length), (6, .fz int br), (7, .fz int i)], [.row int out]⟩
  have ea : List.getD a (Int.toNat (i : Int)) int.dft = a.getD i 0 := rfl
  have eb : List.getD b (Int.toNat (i : Int)) int.dft = b.getD i 0 := rfl
  have ga : a[i]?.getD int.dft = a.getD i 0 := rfl
  have gb : b[i]?.getD int.dft = b.getD i 0 := rfl
  have ba := ha.at i
  have bb := hb0.at i
  have zb : b.length ≤ i → b.getD i 0 = 0 := fun h => by rw [List.getD_eq_getElem?_getD, List.getElem?_eq_none h]; rfl
  obtain ⟨D, hD⟩ : ∃ D, D = a.getD i 0 - br - b.getD i 0 := ⟨_, rfl⟩
  by_cases hc : i < a.length
  · have hnext : (out ++ [D % 1000000]).length = i + 1 ∧ Bg.Dg (out ++ [D % 1000000]) ∧ (0 ≤ -(D / 1000000) ∧ -(D / 1000000) ≤ 1) ∧ i + 1 ≤ a.length ∧ Bg.vl (out ++ [D % 1000000]) + 1000000 ^ (i + 1) * (Bg.vl (a.drop (i + 1)) - Bg.vl (b.drop (i + 1)) - -(D / 1000000)) = Bg.vl a - Bg.vl b := by
      refine ⟨by simp [hol], hod.app (fun d hd => by rw [List.mem_singleton] at hd; omega), by omega, hc, ?_⟩
      rw [← hv, Bg.vl_app, hol, vl_any a i, vl_any b i, Int.pow_succ, Int.add_assoc]
      congr 1
      rw [Int.mul_assoc, ← Int.mul_add]
      congr 1
      simp only [Bg.vl]
      omega
    by_cases hneg : D < 0
    · by_cases h2 : i < b.length
      · have hE : List.getD a (Int.toNat (i : Int)) int.dft - br - List.getD b (Int.toNat (i : Int)) int.dft + 1000000 = D % 1000000 := by omega
        have hB : (1 : Int) = -(D / 1000000) := by omega
        (repeat' (first | exact trivial | exact fun h => h | refine And.intro ?_ ?_ | (intro hb; first | (simp at hb; done) | (simp at hb) | skip) | omega | exact rfl | exact Nat.le_refl _ | (show _ + 1 ≤ 4294967296; omega) | (dsimp only; omega) | (show (_ : Int) ≤ (_ : Int); omega) | (show _ < List.length _; simp only [List.length_set, List.length_append, List.length_take]; omega) | (show wantB _ _ = true; simp; done) | (show wantB _ _ = true; simp; omega) | (show (_ : Bool) = _; simp_all; done) | (exfalso; omega) | refine aRegion_auto (by decide +kernel) ?_ | fail))
        refine ⟨(out ++ [D % 1000000], -(D / 1000000), i + 1), hnext, by show a.length - (i + 1) < a.length - i; omega, Ent.ren [2] rfl ?_ ?_⟩
        · (repeat' (first | exact trivial | exact rfl | refine And.intro ?_ ?_))
          exact congrArg (fun l => some (AO.row int l)) ((congrArg (fun l => l ++ [List.getD a (Int.toNat (i : Int)) int.dft - br - List.getD b (Int.toNat (i : Int)) int.dft + 1000000]) (List.take_length (l := out))).trans (by rw [hE]))
        · (repeat' (first | exact trivial | exact rfl | refine And.intro ?_ ?_))
          · exact congrArg (AV.ref 2 0) (show out.length + 1 = (out ++ [D % 1000000]).length by simp)
          · exact congrArg (AV.fz int) hB
      · have := zb (by omega)
        have hE : List.getD a (Int.toNat (i : Int)) int.dft - br + 1000000 = D % 1000000 := by omega
        have hB : (1 : Int) = -(D / 1000000) := by omega
        (repeat' (first | exact trivial | exact fun h => h | refine And.intro ?_ ?_ | (intro hb; first | (simp at hb; done) | (simp at hb) | skip) | omega | exact rfl | exact Nat.le_refl _ | (show _ + 1 ≤ 4294967296; omega) | (dsimp only; omega) | (show (_ : Int) ≤ (_ : Int); omega) | (show _ < List.length _; simp only [List.length_set, List.length_append, List.length_take]; omega) | (show wantB _ _ = true; simp; done) | (show wantB _ _ = true; simp; omega) | (show (_ : Bool) = _; simp_all; done) | (exfalso; omega) | refine aRegion_auto (by decide +kernel) ?_ | fail))
        refine ⟨(out ++ [D % 1000000], -(D / 1000000), i + 1), hnext, by show a.length - (i + 1) < a.length - i; omega, Ent.ren [2] rfl ?_ ?_⟩
        · (repeat' (first | exact trivial | exact rfl | refine And.intro ?_ ?_))
          exact congrArg (fun l => some (AO.row int l)) ((congrArg (fun l => l ++ [List.getD a (Int.toNat (i : Int)) int.dft - br + 1000000]) (List.take_length (l := out))).trans (by rw [hE]))
        · (repeat' (first | exact trivial | exact rfl | refine And.intro ?_ ?_))
          · exact congrArg (AV.ref 2 0) (show out.length + 1 = (out ++ [D % 1000000]).length by simp)
          · exact congrArg (AV.fz int) hB
    · by_cases h2 : i < b.length
      · have hE : List.getD a (Int.toNat (i : Int)) int.dft - br - List.getD b (Int.toNat (i : Int)) int.dft = D % 1000000 := by omega
        have hB : (0 : Int) = -(D / 1000000) := by omega
        (repeat' (first | exact trivial | exact fun h => h | refine And.intro ?_ ?_ | (intro hb; first | (simp at hb; done) | (simp at hb) | skip) | omega | exact rfl | exact Nat.le_refl _ | (show _ + 1 ≤ 4294967296; omega) | (dsimp only; omega) | (show (_ : Int) ≤ (_ : Int); omega) | (show _ < List.length _; simp only [List.length_set, List.length_append, List.length_take]; omega) | (show wantB _ _ = true; simp; done) | (show wantB _ _ = true; simp; omega) | (show (_ : Bool) = _; simp_all; done) | (exfalso; omega) | refine aRegion_auto (by decide +kernel) ?_ | fail))
        refine ⟨(out ++ [D % 1000000], -(D / 1000000), i + 1), hnext, by show a.length - (i + 1) < a.length - i; omega, Ent.ren [2] rfl ?_ ?_⟩
        · (repeat' (first | exact trivial | exact rfl | refine And.intro ?_ ?_))
          exact congrArg (fun l => some (AO.row int l)) ((congrArg (fun l => l ++ [List.getD a (Int.toNat (i : Int)) int.dft - br - List.getD b (Int.toNat (i : Int)) int.dft]) (List.take_length (l := out))).trans (by rw [hE]))
        · (repeat' (first | exact trivial | exact rfl | refine And.intro ?_ ?_))
          · exact congrArg (AV.ref 2 0) (show out.length + 1 = (out ++ [D % 1000000]).length by simp)
          · exact congrArg (AV.fz int) hB
      · have := zb (by omega)
        have hE : List.getD a (Int.toNat (i : Int)) int.dft - br = D % 1000000 := by omega
        have hB : (0 : Int) = -(D / 1000000) := by omega
        (repeat' (first | exact trivial | exact fun h => h | refine And.intro ?_ ?_ | (intro hb; first | (simp at hb; done) | (simp at hb) | skip) | omega | exact rfl | exact Nat.le_refl _ | (show _ + 1 ≤ 4294967296; omega) | (dsimp only; omega) | (show (_ : Int) ≤ (_ : Int); omega) | (show _ < List.length _; simp only [List.length_set, List.length_append, List.length_take]; omega) | (show wantB _ _ = true; simp; done) | (show wantB _ _ = true; simp; omega) | (show (_ : Bool) = _; simp_all; done) | (exfalso; omega) | refine aRegion_auto (by decide +kernel) ?_ | fail))
        refine ⟨(out ++ [D % 1000000], -(D / 1000000), i + 1), hnext, by show a.length - (i + 1) < a.length - i; omega, Ent.ren [2] rfl ?_ ?_⟩
        · (repeat' (first | exact trivial | exact rfl | refine And.intro ?_ ?_))
          exact congrArg (fun l => some (AO.row int l)) ((congrArg (fun l => l ++ [List.getD a (Int.toNat (i : Int)) int.dft - br]) (List.take_length (l := out))).trans (by rw [hE]))
        · (repeat' (first | exact trivial | exact rfl | refine And.intro ?_ ?_))
          · exact congrArg (AV.ref 2 0) (show out.length + 1 = (out ++ [D % 1000000]).length by simp)
          · exact congrArg (AV.fz int) hB
  · have hie : i = a.length := by omega
    have hve : Bg.vl out = Bg.vl a - Bg.vl b := by
      have hbn := Bg.vl_nn (hb0.drop i)
      rw [Bg.vl_end (by omega)] at hv
      have hlt := Bg.vl_lt hod
      rw [hol] at hlt
      have hp := Bg.pw_pos i
      rcases Int.lt_or_le 0 (Bg.vl (b.drop i) + br) with h | h
      · have h1 : (1000000 : Int) ^ i * 1 ≤ 1000000 ^ i * (Bg.vl (b.drop i) + br) := Int.mul_le_mul_of_nonneg_left (by omega) (by omega)
        have h2 : (1000000 : Int) ^ i * (0 - Bg.vl (b.drop i) - br) = -(1000000 ^ i * (Bg.vl (b.drop i) + br)) := by
          rw [← Int.mul_neg]; congr 1; omega
        rw [h2] at hv
        omega
      · rw [show (0 : Int) - Bg.vl (b.drop i) - br = 0 by omega, Int.mul_zero, Int.add_zero] at hv
        exact hv
    rw [← hve] at hK
    (repeat' (first | exact trivial | exact fun h => h | refine And.intro ?_ ?_ | (intro hb; first | (simp at hb; done) | (simp at hb) | skip) | omega | exact rfl | exact Nat.le_refl _ | (show _ + 1 ≤ 4294967296; omega) | (dsimp only; omega) | (show (_ : Int) ≤ (_ : Int); omega) | (show _ < List.length _; simp only [List.length_set, List.length_append, List.length_take]; omega) | (show wantB _ _ = true; simp; done) | (show wantB _ _ = true; simp; omega) | (show (_ : Bool) = _; simp_all; done) | (exfalso; omega) | refine aRegion_auto (by decide +kernel) ?_ | fail))
    refine acall_conv [.dat LI] _ _ _ rfl ?_ (acall_frame0 rfl (acall_arg (trimmedA _ out (by omega) hod _ ?_) (congrArg (fun l => [AV.fz LI l]) (List.take_length (l := out)).symm)))
    · (repeat' (first | exact trivial | refine And.intro ?_ ?_ | (show _ ≤ _; omega) | (show _ ≤ _; simp; done)))
    (repeat' (first | exact trivial | exact fun h => h | refine And.intro ?_ ?_ | (intro hb; first | (simp at hb; done) | (simp at hb) | skip) | omega | exact rfl | exact Nat.le_refl _ | (show _ + 1 ≤ 4294967296; omega) | (dsimp only; omega) | (show (_ : Int) ≤ (_ : Int); omega) | (show _ < List.length _; simp only [List.length_set, List.length_append, List.length_take]; omega) | (show wantB _ _ = true; simp; done) | (show wantB _ _ = true; simp; omega) | (show (_ : Bool) = _; simp_all; done) | (exfalso; omega) | refine aRegion_auto (by decide +kernel) ?_ | fail))
    refine ⟨_, _, REnt.drop ⟨rfl, rfl⟩, hK⟩
def cmpI (m n : Nat) : Int := if m < n then -1 else if n < m then 1 else 0
set_option maxHeartbeats 4000000 in
theorem bigCmpA (G : List (Nat × Value)) (m n : Nat) (lm : (Bg.dg m).length ≤ 100000) (_ln : (Bg.dg n).length ≤ 100000) (K : AV → List AO → Prop) (hK : K (.fz int (cmpI m n)) []) :
    ACall Try.prog G 79 [.fz LI (Bg.dg m), .fz LI (Bg.dg n)] [] K := by
  obtain ⟨da, va⟩ := Bg.dg_ok m
  obtain ⟨db, vb⟩ := Bg.dg_ok n
  have l1 := @Bg.dg_longer m n
  have l2 := @Bg.dg_longer n m
  generalize Bg.dg m = a at *
  generalize Bg.dg n = b at *
  refine acall_mk (E := envAt G 41 0) (envOk _ _ _) Try.func79 rfl rfl rfl rfl rfl ?_
  rcases Nat.lt_trichotomy a.length b.length with hl | hl | hl
  · have e : cmpI m n = -1 := by unfold cmpI; rw [if_pos (l1 hl)]
    rw [e] at hK
    (repeat' (first | exact trivial | exact fun h => h | refine And.intro ?_ ?_ | (intro hb; first | (simp at hb; done) | (simp at hb) | skip) | omega | exact rfl | exact Nat.le_refl _ | (show _ + 1 ≤ 4294967296; omega) | (dsimp only; omega) | (show (_ : Int) ≤ (_ : Int); omega) | (show _ < List.length _; simp only [List.length_set, List.length_append, List.length_take]; omega) | (show wantB _ _ = true; simp; done) | (show wantB _ _ = true; simp; omega) | (show (_ : Bool) = _; simp_all; done) | (exfalso; omega) | refine aRegion_auto (by decide +kernel) ?_ | fail))
    refine ⟨_, _, REnt.drop ⟨rfl, rfl⟩, hK⟩
  · (repeat' (first | exact trivial | exact fun h => h | refine And.intro ?_ ?_ | (intro hb; first | (simp at hb; done) | (simp at hb) | skip) | omega | exact rfl | exact Nat.le_refl _ | (show _ + 1 ≤ 4294967296; omega) | (dsimp only; omega) | (show (_ : Int) ≤ (_ : Int); omega) | (show _ < List.length _; simp only [List.length_set, List.length_append, List.length_take]; omega) | (show wantB _ _ = true; simp; done) | (show wantB _ _ = true; simp; omega) | (show (_ : Bool) = _; simp_all; done) | (exfalso; omega) | refine aRegion_auto (by decide +kernel) ?_ | fail))
    refine ⟨Nat, fun k => ⟨[(0, .fz LI a), (1, .fz LI b), (5, .fz int ((k : Int) - 1))], []⟩, fun k => k ≤ a.length ∧ Bg.vl (a.drop k) = Bg.vl (b.drop k), fun k => k, a.length, ⟨Nat.le_refl _, by rw [Bg.vl_end (Nat.le_refl _), Bg.vl_end (by omega)]⟩, Ent.sub rfl ?_, ?_⟩
    · (repeat' (first | exact trivial | exact rfl | refine And.intro ?_ ?_))
    intro k ⟨hk, hv⟩
    have hk : k ≤ a.length := hk
    have hv : Bg.vl (a.drop k) = Bg.vl (b.drop k) := hv
    show awp _ _ _ ⟨[(0, .fz LI a), (1, .fz LI b), (5, .fz int ((k : Int) - 1))], []⟩
    by_cases hk0 : 0 < k
    · obtain ⟨j, rfl⟩ : ∃ j, k = j + 1 := ⟨k - 1, by omega⟩
      have g1 : a[j]?.getD int.dft = a.getD j 0 := rfl
      have g2 : b[j]?.getD int.dft = b.getD j 0 := rfl
      have sa := Bg.vl_split a j (by omega)
      have sb := Bg.vl_split b j (by omega)
      rw [vl_any a j, va] at sa
      rw [vl_any b j, vb, ← hv] at sb
      have ta := Bg.vl_lt (da.take j)
      have tb := Bg.vl_lt (db.take j)
      rw [List.length_take, Nat.min_eq_left (by omega)] at ta tb
      have na := Bg.vl_nn (da.take j)
      have nb := Bg.vl_nn (db.take j)
      obtain ⟨V, hV⟩ : ∃ V, V = Bg.vl (a.drop (j + 1)) := ⟨_, rfl⟩
      rw [← hV] at sa sb
      have less : ∀ x y : Int, x < y → (1000000 : Int) ^ j * (x + 1000000 * V) + 1000000 ^ j ≤ 1000000 ^ j * (y + 1000000 * V) := fun x y h => by
        have := Int.mul_le_mul_of_nonneg_left (show x + 1000000 * V + 1 ≤ y + 1000000 * V by omega) (Int.le_of_lt (Bg.pw_pos j))
        rw [Int.mul_add, Int.mul_one] at this
        exact this
      rcases Int.lt_trichotomy (a.getD j 0) (b.getD j 0) with h | h | h
      · have e : cmpI m n = -1 := by
          have := less _ _ h
          unfold cmpI; rw [if_pos (by omega)]
        rw [e] at hK
        (repeat' (first | exact trivial | exact fun h => h | refine And.intro ?_ ?_ | (intro hb; first | (simp at hb; done) | (simp at hb) | skip) | omega | exact rfl | exact Nat.le_refl _ | (show _ + 1 ≤ 4294967296; omega) | (dsimp only; omega) | (show (_ : Int) ≤ (_ : Int); omega) | (show _ < List.length _; simp only [List.length_set, List.length_append, List.length_take]; omega) | (show wantB _ _ = true; simp; done) | (show wantB _ _ = true; simp; omega) | (show (_ : Bool) = _; simp_all; done) | (exfalso; omega) | refine aRegion_auto (by decide +kernel) ?_ | fail))
        refine ⟨_, _, REnt.drop ⟨rfl, rfl⟩, hK⟩
      · (repeat' (first | exact trivial | exact fun h => h | refine And.intro ?_ ?_ | (intro hb; first | (simp at hb; done) | (simp at hb) | skip) | omega | exact rfl | exact Nat.le_refl _ | (show _ + 1 ≤ 4294967296; omega) | (dsimp only; omega) | (show (_ : Int) ≤ (_ : Int); omega) | (show _ < List.length _; simp only [List.length_set, List.length_append, List.length_take]; omega) | (show wantB _ _ = true; simp; done) | (show wantB _ _ = true; simp; omega) | (show (_ : Bool) = _; simp_all; done) | (exfalso; omega) | refine aRegion_auto (by decide +kernel) ?_ | fail))
        refine ⟨j, ⟨by show j ≤ a.length; omega, ?_⟩, by show j < j + 1; omega, Ent.sub rfl ?_⟩
        · show Bg.vl (a.drop j) = Bg.vl (b.drop j)
          rw [vl_any a j, vl_any b j, h, hv]
        · (repeat' (first | exact trivial | exact rfl | refine And.intro ?_ ?_))
          exact congrArg (AV.fz int) (show ((j + 1 : Nat) : Int) - 1 - 1 = (j : Int) - 1 by omega)
      · have e : cmpI m n = 1 := by
          have := less _ _ h
          unfold cmpI; rw [if_neg (by omega), if_pos (by omega)]
        rw [e] at hK
        (repeat' (first | exact trivial | exact fun h => h | refine And.intro ?_ ?_ | (intro hb; first | (simp at hb; done) | (simp at hb) | skip) | omega | exact rfl | exact Nat.le_refl _ | (show _ + 1 ≤ 4294967296; omega) | (dsimp only; omega) | (show (_ : Int) ≤ (_ : Int); omega) | (show _ < List.length _; simp only [List.length_set, List.length_append, List.length_take]; omega) | (show wantB _ _ = true; simp; done) | (show wantB _ _ = true; simp; omega) | (show (_ : Bool) = _; simp_all; done) | (exfalso; omega) | refine aRegion_auto (by decide +kernel) ?_ | fail))
        refine ⟨_, _, REnt.drop ⟨rfl, rfl⟩, hK⟩
    · have hk1 : k = 0 := by omega
      subst hk1
      rw [List.drop_zero, List.drop_zero, va, vb] at hv
      have e : cmpI m n = 0 := by unfold cmpI; rw [if_neg (by omega), if_neg (by omega)]
      rw [e] at hK
      (repeat' (first | exact trivial | exact fun h => h | refine And.intro ?_ ?_ | (intro hb; first | (simp at hb; done) | (simp at hb) | skip) | omega | exact rfl | exact Nat.le_refl _ | (show _ + 1 ≤ 4294967296; omega) | (dsimp only; omega) | (show (_ : Int) ≤ (_ : Int); omega) | (show _ < List.length _; simp only [List.length_set, List.length_append, List.length_take]; omega) | (show wantB _ _ = true; simp; done) | (show wantB _ _ = true; simp; omega) | (show (_ : Bool) = _; simp_all; done) | (exfalso; omega) | refine aRegion_auto (by decide +kernel) ?_ | fail))
      refine ⟨_, _, REnt.drop ⟨rfl, rfl⟩, hK⟩
  · have e : cmpI m n = 1 := by
      have := l2 hl
      unfold cmpI; rw [if_neg (by omega), if_pos this]
    rw [e] at hK
    (repeat' (first | exact trivial | exact fun h => h | refine And.intro ?_ ?_ | (intro hb; first | (simp at hb; done) | (simp at hb) | skip) | omega | exact rfl | exact Nat.le_refl _ | (show _ + 1 ≤ 4294967296; omega) | (dsimp only; omega) | (show (_ : Int) ≤ (_ : Int); omega) | (show _ < List.length _; simp only [List.length_set, List.length_append, List.length_take]; omega) | (show wantB _ _ = true; simp; done) | (show wantB _ _ = true; simp; omega) | (show (_ : Bool) = _; simp_all; done) | (exfalso; omega) | refine aRegion_auto (by decide +kernel) ?_ | fail))
    refine ⟨_, _, REnt.drop ⟨rfl, rfl⟩, hK⟩
end Go.Proofs.Ytlmmhmoihmlljaa
/-
  Whole numbers of any size: multiplied.
-/
namespace Go.Proofs.Ytlmmhmoihmlljaa
open Go Go.Ab Go.RowKit
set_option maxRecDepth 100000
theorem vl_noughts (n : Nat) : Bg.vl (List.replicate n 0) = 0 := by
  induction n with
  | zero => rfl
  | succ n ih => rw [List.replicate_succ, Bg.vl, ih]; rfl
theorem mul6 {x y : Int} (h1 : 0 ≤ x ∧ x < 1000000) (h2 : 0 ≤ y ∧ y < 1000000) : 0 ≤ x * y ∧ x * y ≤ 999998000001 :=
  ⟨Int.mul_nonneg h1.1 h2.1, by
    have : x * y ≤ 999999 * 999999 := Int.mul_le_mul (by omega) (by omega) h2.1 (by omega)
    omega⟩
structure MulI (a b : List Int) (i k : Nat) (out : List Int) (cy : Int) : Prop where
  len : out.length = a.length + b.length
  dg : Bg.Dg out
  c0 : 0 ≤ cy
  c1 : cy < 1000000
  zer : ∀ j, i + b.length ≤ j → out.getD j 0 = 0
  val : Bg.vl out + 1000000 ^ (i + k) * cy = Bg.vl (a.take i) * Bg.vl b + 1000000 ^ i * (a.getD i 0 * Bg.vl (b.take k))
theorem MulI.step {a b out : List Int} {cy : Int} {i k : Nat} (h : MulI a b i k out cy) (ha : Bg.Dg a) (hb : Bg.Dg b) (hi : i < a.length) (hk : k < b.length) {t : Int} (ht : t = cy + out.getD (i + k) 0 + a.getD i 0 * b.getD k 0) : MulI a b i (k + 1) (out.set (i + k) (t % 1000000)) (t / 1000000) := by
  have o := h.dg.at (i + k)
  have m := mul6 (ha.at i) (hb.at k)
  have c0 := h.c0
  have c1 := h.c1
  refine ⟨by rw [List.length_set]; exact h.len, h.dg.set (by omega), by omega, by omega, fun j hj => ?_, ?_⟩
  · rw [List.getD_eq_getElem?_getD, List.getElem?_set_ne (by omega), ← List.getD_eq_getElem?_getD]
    exact h.zer j hj
  · have hl := h.len
    rw [Bg.vl_set (by omega), Bg.vl_take hk]
    have hv := h.val
    have e1 : (1000000 : Int) ^ (i + (k + 1)) * (t / 1000000) = 1000000 ^ (i + k) * (1000000 * (t / 1000000)) := by
      rw [← Nat.add_assoc, Int.pow_succ, Int.mul_assoc]
    have e2 : (1000000 : Int) ^ i * (a.getD i 0 * (Bg.vl (b.take k) + 1000000 ^ k * b.getD k 0)) = 1000000 ^ i * (a.getD i 0 * Bg.vl (b.take k)) + 1000000 ^ (i + k) * (a.getD i 0 * b.getD k 0) := by
      rw [Int.mul_add, Int.mul_add, Int.pow_add]
      congr 1
      simp only [Int.mul_assoc, Int.mul_comm, Int.mul_left_comm]
    have e3 : (1000000 : Int) ^ (i + k) * (t % 1000000 - out.getD (i + k) 0) + 1000000 ^ (i + k) * (1000000 * (t / 1000000)) = 1000000 ^ (i + k) * cy + 1000000 ^ (i + k) * (a.getD i 0 * b.getD k 0) := by
      rw [← Int.mul_add, ← Int.mul_add]
      congr 1
      omega
    rw [e1, e2]
    generalize (1000000 : Int) ^ (i + k) * (t % 1000000 - out.getD (i + k) 0) = p1 at *
    generalize (1000000 : Int) ^ (i + k) * (1000000 * (t / 1000000)) = p2 at *
    generalize (1000000 : Int) ^ (i + k) * cy = p3 at *
    generalize (1000000 : Int) ^ (i + k) * (a.getD i 0 * b.getD k 0) = p4 at *
    generalize (1000000 : Int) ^ i * (a.getD i 0 * Bg.vl (b.take k)) = p5 at *
    generalize Bg.vl (a.take i) * Bg.vl b = p6 at *
    omega
structure MulO (a b : List Int) (i : Nat) (out : List Int) : Prop where
  len : out.length = a.length + b.length
  dg : Bg.Dg out
  zer : ∀ j, i + b.length ≤ j → out.getD j 0 = 0
  val : Bg.vl out = Bg.vl (a.take i) * Bg.vl b
theorem MulO.start (a b : List Int) : MulO a b 0 (List.replicate (a.length + b.length) 0) :=
  ⟨by simp, fun d hd => by rw [List.mem_replicate] at hd; omega, fun j _ => by
    rw [List.getD_eq_getElem?_getD, List.getElem?_replicate]; split <;> rfl, by rw [vl_noughts]; simp [Bg.vl]⟩
theorem MulO.inner {a b out : List Int} {i : Nat} (h : MulO a b i out) : MulI a b i 0 out 0 :=
  ⟨h.len, h.dg, Int.le_refl _, by decide, h.zer, by rw [h.val]; simp [Bg.vl]⟩
theorem MulI.outer {a b out : List Int} {cy : Int} {i : Nat} (h : MulI a b i b.length out cy) (hi : i < a.length) : MulO a b (i + 1) (out.set (i + b.length) cy) := by
  have hl := h.len
  refine ⟨by rw [List.length_set]; exact h.len, h.dg.set ⟨h.c0, h.c1⟩, fun j hj => ?_, ?_⟩
  · rw [List.getD_eq_getElem?_getD, List.getElem?_set_ne (by omega), ← List.getD_eq_getElem?_getD]
    exact h.zer j (by omega)
  · have hv := h.val
    rw [List.take_length] at hv
    rw [Bg.vl_set (by omega), h.zer _ (Nat.le_refl _), Int.sub_zero, hv, Bg.vl_take hi, Int.add_mul]
    congr 1
    rw [Int.mul_assoc]
set_option maxHeartbeats 4000000 in
theorem bigMulA (G : List (Nat × Value)) (a b : List Int) (ha : Bg.Dg a) (hb0 : Bg.Dg b) (la : a.length ≤ 100000) (lb : b.length ≤ 100000) (K : AV → List AO → Prop) (hK : K (.fz LI (Bg.dg (Bg.vl a * Bg.vl b).toNat)) []) :
    ACall Try.prog G 69 [.fz LI a, .fz LI b] [] K := by
  obtain ⟨n, hn⟩ : ∃ n, n = a.length + b.length := ⟨_, rfl⟩
  refine acall_mk (E := envAt G 63 0) (envOk _ _ _) Try.func69 rfl rfl rfl rfl rfl ?_
  (repeat' (first | exact trivial | exact fun h => h | refine And.intro ?_ ?_ | (intro hb; first | (simp at hb; done) | (simp at hb) | skip) | omega | exact rfl | exact Nat.le_refl _ | (show _ + 1 ≤ 4294967296; omega) | (dsimp only; omega) | (show (_ : Int) ≤ (_ : Int); omega) | (show _ < List.length _; simp only [List.length_set, List.length_append, List.length_take]; omega) | (show wantB _ _ = true; simp; done) | (show wantB _ _ = true; simp; omega) | (show (_ : Bool) = _; simp_all; done) | (exfalso; omega) | refine aRegion_auto (by decide +kernel) ?_ | fail))
  refine ⟨List Int × Nat, fun x => ⟨[(0, .fz LI a), (1, .fz LI b), (5, .ref 0 0 n), (6, .fz int x.2)], [.row int x.1]⟩, fun x => x.2 ≤ a.length ∧ MulO a b x.2 x.1, fun x => a.length - x.2, (List.replicate (a.length + b.length) 0, 0), ⟨Nat.zero_le _, .start a b⟩, Ent.sub ?_ ?_, ?_⟩
  · (repeat' (first | exact rfl | refine cons_eq ?_ ?_))
  · (repeat' (first | exact trivial | exact rfl | refine And.intro ?_ ?_))
    exact congrArg (AV.ref 0 0) (show ((a.length : Int) + (b.length : Int)).toNat = n by omega)
  rintro ⟨out, i⟩ ⟨hi, hO⟩
  have hi : i ≤ a.length := hi
  have hO : MulO a b i out := hO
  have hol := hO.len
  show awp _ _ _ ⟨[(0, .fz LI a), (1, .fz LI b), (5, .ref 0 0 n), (6, .fz int i)], [.row int out]⟩
  by_cases hi2 : i < a.length
  · (repeat' (first | exact trivial | exact fun h => h | refine And.intro ?_ ?_ | (intro hb; first | (simp at hb; done) | (simp at hb) | skip) | omega | exact rfl | exact Nat.le_refl _ | (show _ + 1 ≤ 4294967296; omega) | (dsimp only; omega) | (show (_ : Int) ≤ (_ : Int); omega) | (show _ < List.length _; simp only [List.length_set, List.length_append, List.length_take]; omega) | (show wantB _ _ = true; simp; done) | (show wantB _ _ = true; simp; omega) | (show (_ : Bool) = _; simp_all; done) | (exfalso; omega) | refine aRegion_auto (by decide +kernel) ?_ | fail))
    refine ⟨List Int × Int × Nat, fun x => ⟨[(0, .fz LI a), (1, .fz LI b), (5, .ref 0 0 n), (6, .fz int i), (7, .fz int x.2.1), (8, .fz int x.2.2)], [.row int x.1]⟩, fun x => x.2.2 ≤ b.length ∧ MulI a b i x.2.2 x.1 x.2.1, fun x => b.length - x.2.2, (out, 0, 0), ⟨Nat.zero_le _, hO.inner⟩, Ent.sub rfl ?_, ?_⟩
    · (repeat' (first | exact trivial | exact rfl | refine And.intro ?_ ?_))
    clear hO hol
    rintro ⟨out, cy, k⟩ ⟨hk, hM⟩
    have hk : k ≤ b.length := hk
    have hM : MulI a b i k out cy := hM
    have hol := hM.len
    have c0 := hM.c0
    have c1 := hM.c1
    show awp _ _ _ ⟨[(0, .fz LI a), (1, .fz LI b), (5, .ref 0 0 n), (6, .fz int i), (7, .fz int cy), (8, .fz int k)], [.row int out]⟩
    by_cases hk2 : k < b.length
    · have ea : List.getD a (Int.toNat (i : Int)) int.dft = a.getD i 0 := rfl
      have eb : List.getD b (Int.toNat (k : Int)) int.dft = b.getD k 0 := rfl
      have eo : List.getD out (0 + Int.toNat ((i : Int) + (k : Int))) int.dft = out.getD (i + k) 0 := by
        rw [Nat.zero_add, show Int.toNat ((i : Int) + (k : Int)) = i + k by omega]; rfl
      have bo := hM.dg.at (i + k)
      have bm := mul6 (ha.at i) (hb0.at k)
      obtain ⟨t, ht⟩ : ∃ t, t = cy + out.getD (i + k) 0 + a.getD i 0 * b.getD k 0 := ⟨_, rfl⟩
      have hE : cy + List.getD out (0 + Int.toNat ((i : Int) + (k : Int))) int.dft + List.getD a (Int.toNat (i : Int)) int.dft * List.getD b (Int.toNat (k : Int)) int.dft = t := by rw [eo, ea, eb, ht]
      have tm := tm_eq hE (by omega)
      have td := td_eq hE (by omega)
      have bp : 0 ≤ List.getD a (Int.toNat (i : Int)) int.dft * List.getD b (Int.toNat (k : Int)) int.dft ∧ List.getD a (Int.toNat (i : Int)) int.dft * List.getD b (Int.toNat (k : Int)) int.dft ≤ 999998000001 := by rw [ea, eb]; exact bm
      (repeat' (first | exact trivial | exact fun h => h | refine And.intro ?_ ?_ | (intro hb; first | (simp at hb; done) | (simp at hb) | skip) | omega | exact rfl | exact Nat.le_refl _ | (show _ + 1 ≤ 4294967296; omega) | (dsimp only; omega) | (show (_ : Int) ≤ (_ : Int); omega) | (show _ < List.length _; simp only [List.length_set, List.length_append, List.length_take]; omega) | (show wantB _ _ = true; simp; done) | (show wantB _ _ = true; simp; omega) | (show (_ : Bool) = _; simp_all; done) | (exfalso; omega) | refine aRegion_auto (by decide +kernel) ?_ | fail))
      refine ⟨(out.set (i + k) (t % 1000000), t / 1000000, k + 1), ⟨by show k + 1 ≤ b.length; omega, hM.step ha hb0 hi2 hk2 ht⟩, by show b.length - (k + 1) < b.length - k; omega, Ent.sub ?_ ?_⟩
      · (repeat' (first | exact rfl | refine cons_eq ?_ ?_))
        refine congrArg (AO.row int) (?_ : List.set out (0 + Int.toNat ((i : Int) + (k : Int))) (Int.tmod (cy + List.getD out (0 + Int.toNat ((i : Int) + (k : Int))) int.dft + List.getD a (Int.toNat (i : Int)) int.dft * List.getD b (Int.toNat (k : Int)) int.dft) 1000000) = out.set (i + k) (t % 1000000))
        rw [tm, Nat.zero_add, show Int.toNat ((i : Int) + (k : Int)) = i + k by omega]
      · (repeat' (first | exact trivial | exact rfl | refine And.intro ?_ ?_))
        exact congrArg (AV.fz int) td
    · have hk3 : k = b.length := by omega
      subst hk3
      have hO2 := hM.outer hi2
      (repeat' (first | exact trivial | exact fun h => h | refine And.intro ?_ ?_ | (intro hb; first | (simp at hb; done) | (simp at hb) | skip) | omega | exact rfl | exact Nat.le_refl _ | (show _ + 1 ≤ 4294967296; omega) | (dsimp only; omega) | (show (_ : Int) ≤ (_ : Int); omega) | (show _ < List.length _; simp only [List.length_set, List.length_append, List.length_take]; omega) | (show wantB _ _ = true; simp; done) | (show wantB _ _ = true; simp; omega) | (show (_ : Bool) = _; simp_all; done) | (exfalso; omega) | refine aRegion_auto (by decide +kernel) ?_ | fail))
      refine ⟨(out.set (i + b.length) cy, i + 1), ⟨by show i + 1 ≤ a.length; omega, hO2⟩, by show a.length - (i + 1) < a.length - i; omega, Ent.sub ?_ ?_⟩
      · (repeat' (first | exact rfl | refine cons_eq ?_ ?_))
        exact congrArg (AO.row int) (show List.set out (0 + Int.toNat ((i : Int) + (b.length : Int))) cy = out.set (i + b.length) cy by rw [Nat.zero_add, show Int.toNat ((i : Int) + (b.length : Int)) = i + b.length by omega])
      · (repeat' (first | exact trivial | exact rfl | refine And.intro ?_ ?_))
  · have hi3 : i = a.length := by omega
    have hv := hO.val
    rw [hi3, List.take_length] at hv
    rw [← hv] at hK
    (repeat' (first | exact trivial | exact fun h => h | refine And.intro ?_ ?_ | (intro hb; first | (simp at hb; done) | (simp at hb) | skip) | omega | exact rfl | exact Nat.le_refl _ | (show _ + 1 ≤ 4294967296; omega) | (dsimp only; omega) | (show (_ : Int) ≤ (_ : Int); omega) | (show _ < List.length _; simp only [List.length_set, List.length_append, List.length_take]; omega) | (show wantB _ _ = true; simp; done) | (show wantB _ _ = true; simp; omega) | (show (_ : Bool) = _; simp_all; done) | (exfalso; omega) | refine aRegion_auto (by decide +kernel) ?_ | fail))
    refine acall_conv [.dat LI] _ _ _ rfl ?_ (acall_frame0 rfl (acall_arg (trimmedA _ out (by omega) hO.dg _ ?_) (congrArg (fun l => [AV.fz LI l]) (List.take_of_length_le (l := out) (i := n) (by omega)).symm)))
    · (repeat' (first | exact trivial | refine And.intro ?_ ?_ | (show _ ≤ _; omega) | (show _ ≤ _; simp; done)))
    (repeat' (first | exact trivial | exact fun h => h | refine And.intro ?_ ?_ | (intro hb; first | (simp at hb; done) | (simp at hb) | skip) | omega | exact rfl | exact Nat.le_refl _ | (show _ + 1 ≤ 4294967296; omega) | (dsimp only; omega) | (show (_ : Int) ≤ (_ : Int); omega) | (show _ < List.length _; simp only [List.length_set, List.length_append, List.length_take]; omega) | (show wantB _ _ = true; simp; done) | (show wantB _ _ = true; simp; omega) | (show (_ : Bool) = _; simp_all; done) | (exfalso; omega) | refine aRegion_auto (by decide +kernel) ?_ | fail))
    refine ⟨_, _, REnt.drop ⟨rfl, rfl⟩, hK⟩
end Go.Proofs.Ytlmmhmoihmlljaa
/-
  Whole numbers with a sign.
-/
namespace Go.Proofs.Ytlmmhmoihmlljaa
open Go Go.Ab Go.RowKit
set_option maxRecDepth 100000
abbrev SgT : Ty := .pair .bool LI
/-- as the document keeps a whole number -/
def sgn (z : Int) : Bool × List Int := (decide (z < 0), Bg.dg z.natAbs)
def Sz (z : Int) : Prop := (Bg.dg z.natAbs).length ≤ 50000
theorem signedOfA (G : List (Nat × Value)) (n : Nat) (hn : n ≤ 9223372036854775807) (K : AV → List AO → Prop) (hK : K (.fz SgT (sgn n)) []) : ACall Try.prog G 51 [.fz int (n : Int)] [] K := by
  have e : sgn (n : Int) = (false, Bg.dg n) := by unfold sgn; rw [decide_eq_false (by omega), Int.natAbs_natCast]
  rw [e] at hK
  refine acall_mk (E := envAt G 12 0) (envOk _ _ _) Try.func51 rfl rfl rfl rfl rfl ?_
  (repeat' (first | exact trivial | exact fun h => h | refine And.intro ?_ ?_ | (intro hb; first | (simp at hb; done) | (simp at hb) | skip) | omega | exact rfl | exact Nat.le_refl _ | (show _ + 1 ≤ 4294967296; omega) | (dsimp only; omega) | (show (_ : Int) ≤ (_ : Int); omega) | (show _ < List.length _; simp only [List.length_set, List.length_append, List.length_take]; omega) | (show wantB _ _ = true; simp; done) | (show wantB _ _ = true; simp; omega) | (show (_ : Bool) = _; simp_all; done) | (exfalso; omega) | refine aRegion_auto (by decide +kernel) ?_ | fail))
  refine acall_frame0 rfl (bigOfA _ n hn _ ?_)
  (repeat' (first | exact trivial | exact fun h => h | refine And.intro ?_ ?_ | (intro hb; first | (simp at hb; done) | (simp at hb) | skip) | omega | exact rfl | exact Nat.le_refl _ | (show _ + 1 ≤ 4294967296; omega) | (dsimp only; omega) | (show (_ : Int) ≤ (_ : Int); omega) | (show _ < List.length _; simp only [List.length_set, List.length_append, List.length_take]; omega) | (show wantB _ _ = true; simp; done) | (show wantB _ _ = true; simp; omega) | (show (_ : Bool) = _; simp_all; done) | (exfalso; omega) | refine aRegion_auto (by decide +kernel) ?_ | fail))
  refine ⟨_, _, (REnt.conv1 (.dat SgT) _ rfl trivial).trans (REnt.drop ⟨rfl, rfl⟩), ?_⟩
  exact hK
theorem dg_pos_len (n : Nat) : 0 < (Bg.dg n).length ↔ n ≠ 0 := by
  rw [Nat.pos_iff_ne_zero, Ne, List.length_eq_zero_iff, Bg.dg_nil]
theorem len_pos (l : List Int) : decide ((0 : Int) < (l.length : Int)) = decide (0 < l.length) := decide_eq_decide.2 (by omega)
theorem sg_lt (z : Int) : decide (z < 0) = true ↔ z < 0 := decide_eq_true_iff
theorem dg_abs (z : Int) : Bg.vl (Bg.dg z.natAbs) = z.natAbs := (Bg.dg_ok _).2
theorem signedBackA (G : List (Nat × Value)) (z : Int) (K : AV → List AO → Prop) (hK : K (.fz SgT (sgn (-z))) []) : ACall Try.prog G 53 [.fz SgT (sgn z)] [] K := by
  have e : sgn (-z) = (!decide (z < 0) && decide (0 < (Bg.dg z.natAbs).length), Bg.dg z.natAbs) := by
    unfold sgn
    rw [Int.natAbs_neg]
    congr 1
    rw [Bool.eq_iff_iff]
    simp only [Bool.and_eq_true, Bool.not_eq_true', decide_eq_false_iff_not, decide_eq_true_eq, dg_pos_len]
    omega
  rw [e] at hK
  unfold sgn
  generalize Bg.dg z.natAbs = l at *
  generalize decide (z < 0) = b at *
  rw [← len_pos] at hK
  cases b
  all_goals
    simp only [Bool.not_false, Bool.not_true, Bool.false_and, Bool.true_and] at hK
    refine acall_mk (E := envAt G 15 0) (envOk _ _ _) Try.func53 rfl rfl rfl rfl rfl ?_
    (repeat' (first | exact trivial | exact fun h => h | refine And.intro ?_ ?_ | (intro hb; first | (simp at hb; done) | (simp at hb) | skip) | omega | exact rfl | exact Nat.le_refl _ | (show _ + 1 ≤ 4294967296; omega) | (dsimp only; omega) | (show (_ : Int) ≤ (_ : Int); omega) | (show _ < List.length _; simp only [List.length_set, List.length_append, List.length_take]; omega) | (show wantB _ _ = true; simp; done) | (show wantB _ _ = true; simp; omega) | (show (_ : Bool) = _; simp_all; done) | (exfalso; omega) | refine aRegion_auto (by decide +kernel) ?_ | fail))
    refine ⟨_, _, (REnt.conv1 (.dat SgT) _ rfl trivial).trans (REnt.drop ⟨rfl, rfl⟩), ?_⟩
    exact hK
theorem mul_sgn (x y : Int) : (x * y < 0) ↔ ((x < 0 ↔ ¬ y < 0) ∧ (x * y).natAbs ≠ 0) := by
  by_cases h0 : x * y = 0
  · rw [h0]; simp
  · have hx : x ≠ 0 := fun h => h0 (by rw [h, Int.zero_mul])
    have hy : y ≠ 0 := fun h => h0 (by rw [h, Int.mul_zero])
    have hn : (x * y).natAbs ≠ 0 := by omega
    rcases Int.lt_or_lt_of_ne hx with h1 | h1 <;> rcases Int.lt_or_lt_of_ne hy with h2 | h2
    · have := Int.mul_pos_of_neg_of_neg h1 h2
      simp [hn]; omega
    · have := Int.mul_neg_of_neg_of_pos h1 h2
      simp [hn]; omega
    · have := Int.mul_neg_of_pos_of_neg h1 h2
      simp [hn]; omega
    · have := Int.mul_pos h1 h2
      simp [hn]; omega
theorem signedMulA (G : List (Nat × Value)) (x y : Int) (hx : Sz x) (hy : Sz y) (K : AV → List AO → Prop) (hK : K (.fz SgT (sgn (x * y))) []) : ACall Try.prog G 55 [.fz SgT (sgn x), .fz SgT (sgn y)] [] K := by
  have e : sgn (x * y) = (bif (decide (x < 0) != decide (y < 0)) then decide (0 < (Bg.dg (x * y).natAbs).length) else false, Bg.dg (x * y).natAbs) := by
    unfold sgn
    congr 1
    rw [Bool.eq_iff_iff]
    have := mul_sgn x y
    have h2 := dg_pos_len (x * y).natAbs
    generalize x * y = p at *
    by_cases h3 : x < 0 <;> by_cases h4 : y < 0 <;> simp [h3, h4] at this ⊢ <;> omega
  rw [e, ← len_pos] at hK
  have hv : (Bg.vl (Bg.dg x.natAbs) * Bg.vl (Bg.dg y.natAbs)).toNat = (x * y).natAbs := by
    rw [dg_abs, dg_abs, Int.natAbs_mul, ← Int.natCast_mul]; rfl
  have hm := bigMulA G (Bg.dg x.natAbs) (Bg.dg y.natAbs) (Bg.dg_ok _).1 (Bg.dg_ok _).1 (by unfold Sz at hx; omega) (by unfold Sz at hy; omega)
  rw [hv] at hm
  unfold sgn
  generalize Bg.dg x.natAbs = l at *
  generalize Bg.dg y.natAbs = m at *
  generalize Bg.dg (x * y).natAbs = n at *
  generalize decide (x < 0) = b at *
  generalize decide (y < 0) = c at *
  refine acall_mk (E := envAt G 23 0) (envOk _ _ _) Try.func55 rfl rfl rfl rfl rfl ?_
  (repeat' (first | exact trivial | exact fun h => h | refine And.intro ?_ ?_ | (intro hb; first | (simp at hb; done) | (simp at hb) | skip) | omega | exact rfl | exact Nat.le_refl _ | (show _ + 1 ≤ 4294967296; omega) | (dsimp only; omega) | (show (_ : Int) ≤ (_ : Int); omega) | (show _ < List.length _; simp only [List.length_set, List.length_append, List.length_take]; omega) | (show wantB _ _ = true; simp; done) | (show wantB _ _ = true; simp; omega) | (show (_ : Bool) = _; simp_all; done) | (exfalso; omega) | refine aRegion_auto (by decide +kernel) ?_ | fail))
  refine acall_frame0 rfl (hm _ ?_)
  cases b <;> cases c
  all_goals
    (repeat' (first | exact trivial | exact fun h => h | refine And.intro ?_ ?_ | (intro hb; first | (simp at hb; done) | (simp at hb) | skip) | omega | exact rfl | exact Nat.le_refl _ | (show _ + 1 ≤ 4294967296; omega) | (dsimp only; omega) | (show (_ : Int) ≤ (_ : Int); omega) | (show _ < List.length _; simp only [List.length_set, List.length_append, List.length_take]; omega) | (show wantB _ _ = true; simp; done) | (show wantB _ _ = true; simp; omega) | (show (_ : Bool) = _; simp_all; done) | (exfalso; omega) | refine aRegion_auto (by decide +kernel) ?_ | fail))
    refine ⟨_, _, (REnt.conv1 (.dat SgT) _ rfl trivial).trans (REnt.drop ⟨rfl, rfl⟩), ?_⟩
    exact hK
/-- of a bounded number of binary digits -/
def Bd (k : Nat) (z : Int) : Prop := z.natAbs < 2 ^ k
theorem pw_le {k n : Nat} (h : k ≤ 19 * n) : 2 ^ k ≤ 1000000 ^ n :=
  calc 2 ^ k ≤ 2 ^ (19 * n) := Nat.pow_le_pow_right (by omega) h
    _ = (2 ^ 19) ^ n := Nat.pow_mul ..
    _ ≤ 1000000 ^ n := Nat.pow_le_pow_left (by decide) _
theorem Bd.szn {k n : Nat} {z : Int} (h : Bd k z) (hk : k ≤ 19 * n) : (Bg.dg z.natAbs).length ≤ n := Bg.dg_len (Nat.lt_of_lt_of_le h (pw_le hk))
theorem Bd.sz {k : Nat} {z : Int} (h : Bd k z) (hk : k ≤ 900000) : Sz z := h.szn (by omega)
theorem Bd.mul {k n : Nat} {x y : Int} (h : Bd k x) (h' : Bd n y) : Bd (k + n) (x * y) := by
  unfold Bd at *
  rw [Int.natAbs_mul, Nat.pow_add]
  exact Nat.mul_lt_mul'' h h'
theorem Bd.mono {k n : Nat} {x : Int} (h : Bd k x) (hn : k ≤ n) : Bd n x := Nat.lt_of_lt_of_le h (Nat.pow_le_pow_right (by omega) hn)
theorem Bd.add {k n : Nat} {x y : Int} (h : Bd k x) (h' : Bd n y) : Bd (max k n + 1) (x + y) := by
  have h := h.mono (Nat.le_max_left k n)
  have h' := h'.mono (Nat.le_max_right k n)
  unfold Bd at *
  rw [Nat.pow_succ]
  omega
theorem Bd.neg {k : Nat} {x : Int} (h : Bd k x) : Bd k (-x) := by
  unfold Bd at *
  rw [Int.natAbs_neg]; exact h
theorem signedAddA (G : List (Nat × Value)) (x y : Int) (hx : Sz x) (hy : Sz y) (K : AV → List AO → Prop) (hK : K (.fz SgT (sgn (x + y))) []) : ACall Try.prog G 67 [.fz SgT (sgn x), .fz SgT (sgn y)] [] K := by
  have ha := fun K => bigAddA G (Bg.dg x.natAbs) (Bg.dg y.natAbs) (Bg.dg_ok _).1 (Bg.dg_ok _).1 (by unfold Sz at hx; omega) (by unfold Sz at hy; omega) K
  have hs := fun K h => bigSubA G (Bg.dg x.natAbs) (Bg.dg y.natAbs) (Bg.dg_ok _).1 (Bg.dg_ok _).1 (by unfold Sz at hx; omega) (by unfold Sz at hy; omega) h K
  have hs2 := fun K h => bigSubA G (Bg.dg y.natAbs) (Bg.dg x.natAbs) (Bg.dg_ok _).1 (Bg.dg_ok _).1 (by unfold Sz at hy; omega) (by unfold Sz at hx; omega) h K
  have hc := fun K => bigCmpA G x.natAbs y.natAbs (by unfold Sz at hx; omega) (by unfold Sz at hy; omega) K
  simp only [dg_abs] at ha hs hs2
  unfold Sz at hx hy
  unfold sgn at hK ⊢
  have e1 : ((x.natAbs : Int) + y.natAbs).toNat = x.natAbs + y.natAbs := by omega
  have e2 : ((x.natAbs : Int) - y.natAbs).toNat = x.natAbs - y.natAbs := by omega
  have e3 : ((y.natAbs : Int) - x.natAbs).toNat = y.natAbs - x.natAbs := by omega
  rw [e1] at ha
  rw [e2] at hs
  rw [e3] at hs2
  by_cases h1 : x < 0 <;> by_cases h2 : y < 0
  · rw [decide_eq_true h1, decide_eq_true h2]
    rw [decide_eq_true (show (x + y < 0) by omega), show (x + y).natAbs = x.natAbs + y.natAbs by omega] at hK
    generalize Bg.dg x.natAbs = l at *
    generalize Bg.dg y.natAbs = m at *
    generalize Bg.dg (x.natAbs + y.natAbs) = n at *
    refine acall_mk (E := envAt G 47 0) (envOk _ _ _) Try.func67 rfl rfl rfl rfl rfl ?_
    (repeat' (first | exact trivial | exact fun h => h | refine And.intro ?_ ?_ | (intro hb; first | (simp at hb; done) | (simp at hb) | skip) | omega | exact rfl | exact Nat.le_refl _ | (show _ + 1 ≤ 4294967296; omega) | (dsimp only; omega) | (show (_ : Int) ≤ (_ : Int); omega) | (show _ < List.length _; simp only [List.length_set, List.length_append, List.length_take]; omega) | (show wantB _ _ = true; simp; done) | (show wantB _ _ = true; simp; omega) | (show (_ : Bool) = _; simp_all; done) | (exfalso; omega) | refine aRegion_auto (by decide +kernel) ?_ | fail))
    apply exEff
    · refine acall_frame0 rfl (ha _ ?_)
      exact ⟨rfl, rfl⟩
    (apply exEff; focus (repeat' (first | exact ⟨rfl, rfl⟩ | exact trivial | refine And.intro ?_ ?_ | omega | exact Nat.le_refl _ | (show _ + 1 ≤ 4294967296; omega))))
    (repeat' (first | exact trivial | exact fun h => h | refine And.intro ?_ ?_ | (intro hb; first | (simp at hb; done) | (simp at hb) | skip) | omega | exact rfl | exact Nat.le_refl _ | (show _ + 1 ≤ 4294967296; omega) | (dsimp only; omega) | (show (_ : Int) ≤ (_ : Int); omega) | (show _ < List.length _; simp only [List.length_set, List.length_append, List.length_take]; omega) | (show wantB _ _ = true; simp; done) | (show wantB _ _ = true; simp; omega) | (show (_ : Bool) = _; simp_all; done) | (exfalso; omega) | refine aRegion_auto (by decide +kernel) ?_ | fail))
    refine ⟨_, _, (REnt.conv1 (.dat SgT) _ rfl trivial).trans (REnt.drop ⟨rfl, rfl⟩), ?_⟩
    exact hK
  · rw [decide_eq_true h1, decide_eq_false h2]
    by_cases hle : y.natAbs ≤ x.natAbs
    · rw [show decide (x + y < 0) = decide (0 < (Bg.dg (x + y).natAbs).length) from decide_eq_decide.2 (by rw [dg_pos_len]; omega), show (x + y).natAbs = x.natAbs - y.natAbs by omega, ← len_pos] at hK
      have hs := fun K => hs K (by omega)
      have hcv : 0 ≤ cmpI x.natAbs y.natAbs := by unfold cmpI; split <;> (try split) <;> omega
      generalize Bg.dg x.natAbs = l at *
      generalize Bg.dg y.natAbs = m at *
      generalize Bg.dg (x.natAbs - y.natAbs) = n at *
      generalize cmpI x.natAbs y.natAbs = cv at *
      refine acall_mk (E := envAt G 47 0) (envOk _ _ _) Try.func67 rfl rfl rfl rfl rfl ?_
      (repeat' (first | exact trivial | exact fun h => h | refine And.intro ?_ ?_ | (intro hb; first | (simp at hb; done) | (simp at hb) | skip) | omega | exact rfl | exact Nat.le_refl _ | (show _ + 1 ≤ 4294967296; omega) | (dsimp only; omega) | (show (_ : Int) ≤ (_ : Int); omega) | (show _ < List.length _; simp only [List.length_set, List.length_append, List.length_take]; omega) | (show wantB _ _ = true; simp; done) | (show wantB _ _ = true; simp; omega) | (show (_ : Bool) = _; simp_all; done) | (exfalso; omega) | refine aRegion_auto (by decide +kernel) ?_ | fail))
      refine acall_frame0 rfl (hc _ ?_)
      (repeat' (first | exact trivial | exact fun h => h | refine And.intro ?_ ?_ | (intro hb; first | (simp at hb; done) | (simp at hb) | skip) | omega | exact rfl | exact Nat.le_refl _ | (show _ + 1 ≤ 4294967296; omega) | (dsimp only; omega) | (show (_ : Int) ≤ (_ : Int); omega) | (show _ < List.length _; simp only [List.length_set, List.length_append, List.length_take]; omega) | (show wantB _ _ = true; simp; done) | (show wantB _ _ = true; simp; omega) | (show (_ : Bool) = _; simp_all; done) | (exfalso; omega) | refine aRegion_auto (by decide +kernel) ?_ | fail))
      refine acall_frame0 rfl (hs _ ?_)
      (repeat' (first | exact trivial | exact fun h => h | refine And.intro ?_ ?_ | (intro hb; first | (simp at hb; done) | (simp at hb) | skip) | omega | exact rfl | exact Nat.le_refl _ | (show _ + 1 ≤ 4294967296; omega) | (dsimp only; omega) | (show (_ : Int) ≤ (_ : Int); omega) | (show _ < List.length _; simp only [List.length_set, List.length_append, List.length_take]; omega) | (show wantB _ _ = true; simp; done) | (show wantB _ _ = true; simp; omega) | (show (_ : Bool) = _; simp_all; done) | (exfalso; omega) | refine aRegion_auto (by decide +kernel) ?_ | fail))
      refine ⟨_, _, (REnt.conv1 (.dat SgT) _ rfl trivial).trans (REnt.drop ⟨rfl, rfl⟩), ?_⟩
      exact hK
    · rw [decide_eq_false (show ¬ (x + y < 0) by omega), show (x + y).natAbs = y.natAbs - x.natAbs by omega] at hK
      have hs2 := fun K => hs2 K (by omega)
      have hcv : cmpI x.natAbs y.natAbs < 0 := by unfold cmpI; split <;> (try split) <;> omega
      generalize Bg.dg x.natAbs = l at *
      generalize Bg.dg y.natAbs = m at *
      generalize Bg.dg (y.natAbs - x.natAbs) = n at *
      generalize cmpI x.natAbs y.natAbs = cv at *
      refine acall_mk (E := envAt G 47 0) (envOk _ _ _) Try.func67 rfl rfl rfl rfl rfl ?_
      (repeat' (first | exact trivial | exact fun h => h | refine And.intro ?_ ?_ | (intro hb; first | (simp at hb; done) | (simp at hb) | skip) | omega | exact rfl | exact Nat.le_refl _ | (show _ + 1 ≤ 4294967296; omega) | (dsimp only; omega) | (show (_ : Int) ≤ (_ : Int); omega) | (show _ < List.length _; simp only [List.length_set, List.length_append, List.length_take]; omega) | (show wantB _ _ = true; simp; done) | (show wantB _ _ = true; simp; omega) | (show (_ : Bool) = _; simp_all; done) | (exfalso; omega) | refine aRegion_auto (by decide +kernel) ?_ | fail))
      refine acall_frame0 rfl (hc _ ?_)
      (repeat' (first | exact trivial | exact fun h => h | refine And.intro ?_ ?_ | (intro hb; first | (simp at hb; done) | (simp at hb) | skip) | omega | exact rfl | exact Nat.le_refl _ | (show _ + 1 ≤ 4294967296; omega) | (dsimp only; omega) | (show (_ : Int) ≤ (_ : Int); omega) | (show _ < List.length _; simp only [List.length_set, List.length_append, List.length_take]; omega) | (show wantB _ _ = true; simp; done) | (show wantB _ _ = true; simp; omega) | (show (_ : Bool) = _; simp_all; done) | (exfalso; omega) | refine aRegion_auto (by decide +kernel) ?_ | fail))
      apply exEff
      · refine acall_frame0 rfl (hs2 _ ?_)
        exact ⟨rfl, rfl⟩
      (apply exEff; focus (repeat' (first | exact ⟨rfl, rfl⟩ | exact trivial | refine And.intro ?_ ?_ | omega | exact Nat.le_refl _ | (show _ + 1 ≤ 4294967296; omega))))
      (repeat' (first | exact trivial | exact fun h => h | refine And.intro ?_ ?_ | (intro hb; first | (simp at hb; done) | (simp at hb) | skip) | omega | exact rfl | exact Nat.le_refl _ | (show _ + 1 ≤ 4294967296; omega) | (dsimp only; omega) | (show (_ : Int) ≤ (_ : Int); omega) | (show _ < List.length _; simp only [List.length_set, List.length_append, List.length_take]; omega) | (show wantB _ _ = true; simp; done) | (show wantB _ _ = true; simp; omega) | (show (_ : Bool) = _; simp_all; done) | (exfalso; omega) | refine aRegion_auto (by decide +kernel) ?_ | fail))
      refine ⟨_, _, (REnt.conv1 (.dat SgT) _ rfl trivial).trans (REnt.drop ⟨rfl, rfl⟩), ?_⟩
      exact hK
  · rw [decide_eq_false h1, decide_eq_true h2]
    by_cases hle : y.natAbs ≤ x.natAbs
    · rw [decide_eq_false (show ¬ (x + y < 0) by omega), show (x + y).natAbs = x.natAbs - y.natAbs by omega] at hK
      have hs := fun K => hs K (by omega)
      have hcv : 0 ≤ cmpI x.natAbs y.natAbs := by unfold cmpI; split <;> (try split) <;> omega
      generalize Bg.dg x.natAbs = l at *
      generalize Bg.dg y.natAbs = m at *
      generalize Bg.dg (x.natAbs - y.natAbs) = n at *
      generalize cmpI x.natAbs y.natAbs = cv at *
      refine acall_mk (E := envAt G 47 0) (envOk _ _ _) Try.func67 rfl rfl rfl rfl rfl ?_
      (repeat' (first | exact trivial | exact fun h => h | refine And.intro ?_ ?_ | (intro hb; first | (simp at hb; done) | (simp at hb) | skip) | omega | exact rfl | exact Nat.le_refl _ | (show _ + 1 ≤ 4294967296; omega) | (dsimp only; omega) | (show (_ : Int) ≤ (_ : Int); omega) | (show _ < List.length _; simp only [List.length_set, List.length_append, List.length_take]; omega) | (show wantB _ _ = true; simp; done) | (show wantB _ _ = true; simp; omega) | (show (_ : Bool) = _; simp_all; done) | (exfalso; omega) | refine aRegion_auto (by decide +kernel) ?_ | fail))
      refine acall_frame0 rfl (hc _ ?_)
      (repeat' (first | exact trivial | exact fun h => h | refine And.intro ?_ ?_ | (intro hb; first | (simp at hb; done) | (simp at hb) | skip) | omega | exact rfl | exact Nat.le_refl _ | (show _ + 1 ≤ 4294967296; omega) | (dsimp only; omega) | (show (_ : Int) ≤ (_ : Int); omega) | (show _ < List.length _; simp only [List.length_set, List.length_append, List.length_take]; omega) | (show wantB _ _ = true; simp; done) | (show wantB _ _ = true; simp; omega) | (show (_ : Bool) = _; simp_all; done) | (exfalso; omega) | refine aRegion_auto (by decide +kernel) ?_ | fail))
      refine acall_frame0 rfl (hs _ ?_)
      (repeat' (first | exact trivial | exact fun h => h | refine And.intro ?_ ?_ | (intro hb; first | (simp at hb; done) | (simp at hb) | skip) | omega | exact rfl | exact Nat.le_refl _ | (show _ + 1 ≤ 4294967296; omega) | (dsimp only; omega) | (show (_ : Int) ≤ (_ : Int); omega) | (show _ < List.length _; simp only [List.length_set, List.length_append, List.length_take]; omega) | (show wantB _ _ = true; simp; done) | (show wantB _ _ = true; simp; omega) | (show (_ : Bool) = _; simp_all; done) | (exfalso; omega) | refine aRegion_auto (by decide +kernel) ?_ | fail))
      refine ⟨_, _, (REnt.conv1 (.dat SgT) _ rfl trivial).trans (REnt.drop ⟨rfl, rfl⟩), ?_⟩
      exact hK
    · rw [decide_eq_true (show x + y < 0 by omega), show (x + y).natAbs = y.natAbs - x.natAbs by omega] at hK
      have hs2 := fun K => hs2 K (by omega)
      have hcv : cmpI x.natAbs y.natAbs < 0 := by unfold cmpI; split <;> (try split) <;> omega
      generalize Bg.dg x.natAbs = l at *
      generalize Bg.dg y.natAbs = m at *
      generalize Bg.dg (y.natAbs - x.natAbs) = n at *
      generalize cmpI x.natAbs y.natAbs = cv at *
      refine acall_mk (E := envAt G 47 0) (envOk _ _ _) Try.func67 rfl rfl rfl rfl rfl ?_
      (repeat' (first | exact trivial | exact fun h => h | refine And.intro ?_ ?_ | (intro hb; first | (simp at hb; done) | (simp at hb) | skip) | omega | exact rfl | exact Nat.le_refl _ | (show _ + 1 ≤ 4294967296; omega) | (dsimp only; omega) | (show (_ : Int) ≤ (_ : Int); omega) | (show _ < List.length _; simp only [List.length_set, List.length_append, List.length_take]; omega) | (show wantB _ _ = true; simp; done) | (show wantB _ _ = true; simp; omega) | (show (_ : Bool) = _; simp_all; done) | (exfalso; omega) | refine aRegion_auto (by decide +kernel) ?_ | fail))
      refine acall_frame0 rfl (hc _ ?_)
      (repeat' (first | exact trivial | exact fun h => h | refine And.intro ?_ ?_ | (intro hb; first | (simp at hb; done) | (simp at hb) | skip) | omega | exact rfl | exact Nat.le_refl _ | (show _ + 1 ≤ 4294967296; omega) | (dsimp only; omega) | (show (_ : Int) ≤ (_ : Int); omega) | (show _ < List.length _; simp only [List.length_set, List.length_append, List.length_take]; omega) | (show wantB _ _ = true; simp; done) | (show wantB _ _ = true; simp; omega) | (show (_ : Bool) = _; simp_all; done) | (exfalso; omega) | refine aRegion_auto (by decide +kernel) ?_ | fail))
      apply exEff
      · refine acall_frame0 rfl (hs2 _ ?_)
        exact ⟨rfl, rfl⟩
      (apply exEff; focus (repeat' (first | exact ⟨rfl, rfl⟩ | exact trivial | refine And.intro ?_ ?_ | omega | exact Nat.le_refl _ | (show _ + 1 ≤ 4294967296; omega))))
      (repeat' (first | exact trivial | exact fun h => h | refine And.intro ?_ ?_ | (intro hb; first | (simp at hb; done) | (simp at hb) | skip) | omega | exact rfl | exact Nat.le_refl _ | (show _ + 1 ≤ 4294967296; omega) | (dsimp only; omega) | (show (_ : Int) ≤ (_ : Int); omega) | (show _ < List.length _; simp only [List.length_set, List.length_append, List.length_take]; omega) | (show wantB _ _ = true; simp; done) | (show wantB _ _ = true; simp; omega) | (show (_ : Bool) = _; simp_all; done) | (exfalso; omega) | refine aRegion_auto (by decide +kernel) ?_ | fail))
      refine ⟨_, _, (REnt.conv1 (.dat SgT) _ rfl trivial).trans (REnt.drop ⟨rfl, rfl⟩), ?_⟩
      exact hK
  · rw [decide_eq_false h1, decide_eq_false h2]
    rw [decide_eq_false (show ¬ (x + y < 0) by omega), show (x + y).natAbs = x.natAbs + y.natAbs by omega] at hK
    generalize Bg.dg x.natAbs = l at *
    generalize Bg.dg y.natAbs = m at *
    generalize Bg.dg (x.natAbs + y.natAbs) = n at *
    refine acall_mk (E := envAt G 47 0) (envOk _ _ _) Try.func67 rfl rfl rfl rfl rfl ?_
    (repeat' (first | exact trivial | exact fun h => h | refine And.intro ?_ ?_ | (intro hb; first | (simp at hb; done) | (simp at hb) | skip) | omega | exact rfl | exact Nat.le_refl _ | (show _ + 1 ≤ 4294967296; omega) | (dsimp only; omega) | (show (_ : Int) ≤ (_ : Int); omega) | (show _ < List.length _; simp only [List.length_set, List.length_append, List.length_take]; omega) | (show wantB _ _ = true; simp; done) | (show wantB _ _ = true; simp; omega) | (show (_ : Bool) = _; simp_all; done) | (exfalso; omega) | refine aRegion_auto (by decide +kernel) ?_ | fail))
    apply exEff
    · refine acall_frame0 rfl (ha _ ?_)
      exact ⟨rfl, rfl⟩
    (apply exEff; focus (repeat' (first | exact ⟨rfl, rfl⟩ | exact trivial | refine And.intro ?_ ?_ | omega | exact Nat.le_refl _ | (show _ + 1 ≤ 4294967296; omega))))
    (repeat' (first | exact trivial | exact fun h => h | refine And.intro ?_ ?_ | (intro hb; first | (simp at hb; done) | (simp at hb) | skip) | omega | exact rfl | exact Nat.le_refl _ | (show _ + 1 ≤ 4294967296; omega) | (dsimp only; omega) | (show (_ : Int) ≤ (_ : Int); omega) | (show _ < List.length _; simp only [List.length_set, List.length_append, List.length_take]; omega) | (show wantB _ _ = true; simp; done) | (show wantB _ _ = true; simp; omega) | (show (_ : Bool) = _; simp_all; done) | (exfalso; omega) | refine aRegion_auto (by decide +kernel) ?_ | fail))
    refine ⟨_, _, (REnt.conv1 (.dat SgT) _ rfl trivial).trans (REnt.drop ⟨rfl, rfl⟩), ?_⟩
    exact hK
end Go.Proofs.Ytlmmhmoihmlljaa
/-
  Whole numbers with a sign, compared; shifted; exact numbers.
-/
namespace Go.Proofs.Ytlmmhmoihmlljaa
open Go Go.Ab Go.RowKit
set_option maxRecDepth 100000
/-- -1, 0, 1 -/
def sgI (z : Int) : Int := if z = 0 then 0 else if z < 0 then -1 else 1
set_option maxHeartbeats 4000000 in
theorem signedCmpA (G : List (Nat × Value)) (x y : Int) (hx : Sz x) (hy : Sz y) (K : AV → List AO → Prop) (hK : K (.fz int (sgI (x - y))) []) : ACall Try.prog G 54 [.fz SgT (sgn x), .fz SgT (sgn y)] [] K := by
  have hB := signedBackA G y
  have hA := signedAddA G x (-y) hx (by unfold Sz at *; rw [Int.natAbs_neg]; exact hy)
  have hl := dg_pos_len (x - y).natAbs
  unfold sgI at hK
  rw [← Int.sub_eq_add_neg] at hA
  unfold sgn at *
  generalize decide (x < 0) = b at *
  generalize decide (y < 0) = c at *
  generalize decide (-y < 0) = c' at *
  generalize Bg.dg x.natAbs = l at *
  generalize Bg.dg y.natAbs = m at *
  generalize Bg.dg (-y).natAbs = m' at *
  generalize Bg.dg (x - y).natAbs = n at *
  refine acall_mk (E := envAt G 16 0) (envOk _ _ _) Try.func54 rfl rfl rfl rfl rfl ?_
  (repeat' (first | exact trivial | exact fun h => h | refine And.intro ?_ ?_ | (intro hb; first | (simp at hb; done) | (simp at hb) | skip) | omega | exact rfl | exact Nat.le_refl _ | (show _ + 1 ≤ 4294967296; omega) | (dsimp only; omega) | (show (_ : Int) ≤ (_ : Int); omega) | (show _ < List.length _; simp only [List.length_set, List.length_append, List.length_take]; omega) | (show wantB _ _ = true; simp; done) | (show wantB _ _ = true; simp; omega) | (show (_ : Bool) = _; simp_all; done) | (exfalso; omega) | fail))
  let bX : AO := .box [.fz .bool b, .fz LI l]
  let bY : AO := .box [.fz .bool c, .fz LI m]
  let bO : AO := .box [.fz .bool false, .nilSl]
  let rm : AO := .room
  let bS : AO := .box [.fz .bool (decide (x - y < 0)), .fz LI n]
  refine aRegion_open 1 (by decide +kernel) ?_
  (repeat' (first | exact trivial | exact fun h => h | refine And.intro ?_ ?_ | (intro hb; first | (simp at hb; done) | (simp at hb) | skip) | omega | exact rfl | exact Nat.le_refl _ | (show _ + 1 ≤ 4294967296; omega) | (dsimp only; omega) | (show (_ : Int) ≤ (_ : Int); omega) | (show _ < List.length _; simp only [List.length_set, List.length_append, List.length_take]; omega) | (show wantB _ _ = true; simp; done) | (show wantB _ _ = true; simp; omega) | (show (_ : Bool) = _; simp_all; done) | (exfalso; omega) | refine aRegion_auto (by decide +kernel) ?_ | fail))
  refine eff_is (.fz SgT (c', m')) [bX, bY, rm] ?_
  (repeat' (first | exact trivial | exact fun h => h | refine And.intro ?_ ?_ | (intro hb; first | (simp at hb; done) | (simp at hb) | skip) | omega | exact rfl | exact Nat.le_refl _ | (show _ + 1 ≤ 4294967296; omega) | (dsimp only; omega) | (show (_ : Int) ≤ (_ : Int); omega) | (show _ < List.length _; simp only [List.length_set, List.length_append, List.length_take]; omega) | (show wantB _ _ = true; simp; done) | (show wantB _ _ = true; simp; omega) | (show (_ : Bool) = _; simp_all; done) | (exfalso; omega) | refine aRegion_auto (by decide +kernel) ?_ | fail))
  refine eff_is (.fz SgT (decide (x - y < 0), n)) [bX, bY, rm] ?_
  (repeat' (first | exact trivial | exact fun h => h | refine And.intro ?_ ?_ | (intro hb; first | (simp at hb; done) | (simp at hb) | skip) | omega | exact rfl | exact Nat.le_refl _ | (show _ + 1 ≤ 4294967296; omega) | (dsimp only; omega) | (show (_ : Int) ≤ (_ : Int); omega) | (show _ < List.length _; simp only [List.length_set, List.length_append, List.length_take]; omega) | (show wantB _ _ = true; simp; done) | (show wantB _ _ = true; simp; omega) | (show (_ : Bool) = _; simp_all; done) | (exfalso; omega) | refine aRegion_auto (by decide +kernel) ?_ | fail))
  refine eff_is (.ptr 2 0) [bX, bY, bO] ?_
  (repeat' (first | exact trivial | exact fun h => h | refine And.intro ?_ ?_ | (intro hb; first | (simp at hb; done) | (simp at hb) | skip) | omega | exact rfl | exact Nat.le_refl _ | (show _ + 1 ≤ 4294967296; omega) | (dsimp only; omega) | (show (_ : Int) ≤ (_ : Int); omega) | (show _ < List.length _; simp only [List.length_set, List.length_append, List.length_take]; omega) | (show wantB _ _ = true; simp; done) | (show wantB _ _ = true; simp; omega) | (show (_ : Bool) = _; simp_all; done) | (exfalso; omega) | refine aRegion_auto (by decide +kernel) ?_ | fail))
  refine eff_is .unk [bX, bY, bS] ?_
  refine ⟨[(0, [bX, bY, rm]), (4, [bX, bY, rm]), (16, [bX, bY, bO]), (12, [bX, bY, rm]), (20, [bX, bY, bO]), (28, [bX, bY, bO]), (60, [bX, bY, bS])], rfl, rfl, ?_, ?_⟩
  · (repeat' (first | refine And.intro ?_ ?_ | exact trivial | exact rfl | omega))
    all_goals first
      | (refine acall_frame0 rfl (hB _ ?_); refine view_of [0, 1, 2] rfl ?_ rfl rfl; (repeat' (first | exact trivial | exact rfl | refine And.intro ?_ ?_)); done)
      | (refine acall_frame0 rfl (hA _ ?_); refine view_of [0, 1, 2] rfl ?_ rfl rfl; (repeat' (first | exact trivial | exact rfl | refine And.intro ?_ ?_)); done)
      | (refine acall_conv [.dat SgT] _ _ _ rfl trivial (acall_frame0 rfl (hB _ ?_)); refine view_of [0, 1, 2] rfl ?_ rfl rfl; (repeat' (first | exact trivial | exact rfl | refine And.intro ?_ ?_)); done)
      | (refine acall_conv [.dat SgT, .keep] _ _ _ rfl trivial (acall_frame0 rfl (hA _ ?_)); refine view_of [0, 1, 2] rfl ?_ rfl rfl; (repeat' (first | exact trivial | exact rfl | refine And.intro ?_ ?_)); done)
      | (refine view_of [0, 1, 3] rfl ?_ rfl rfl; (repeat' (first | exact trivial | exact rfl | refine And.intro ?_ ?_)); done)
      | (refine view_of [0, 1, 2] rfl ?_ rfl rfl; (repeat' (first | exact trivial | exact rfl | refine And.intro ?_ ?_)); done)
  (repeat' (first | exact trivial | exact fun h => h | refine And.intro ?_ ?_ | (intro hb; first | (simp at hb; done) | (simp at hb) | skip) | omega | exact rfl | exact Nat.le_refl _ | (show _ + 1 ≤ 4294967296; omega) | (dsimp only; omega) | (show (_ : Int) ≤ (_ : Int); omega) | (show _ < List.length _; simp only [List.length_set, List.length_append, List.length_take]; omega) | (show wantB _ _ = true; simp; done) | (show wantB _ _ = true; simp; omega) | (show (_ : Bool) = _; simp_all; done) | (exfalso; omega) | refine aRegion_auto (by decide +kernel) ?_ | refine ⟨_, _, REnt.drop ⟨rfl, rfl⟩, ?_⟩ | fail))
  · have h0 : x - y = 0 := by rw [hb] at hl; simp at hl; omega
    rw [if_pos h0] at hK
    exact hK
  · rw [if_neg (by omega), if_pos hb] at hK
    exact hK
  · rename_i hne
    have h0 : 0 < n.length := List.length_pos_iff.2 hne
    have h1 : ¬ x - y < 0 := by simpa using hb
    rw [if_neg (by omega), if_neg h1] at hK
    exact hK
abbrev ExT : Ty := .pair SgT int
theorem shiftedA (G : List (Nat × Value)) (x : Int) (k B : Nat) (hx : Bd B x) (hk : B + k ≤ 900000) (K : AV → List AO → Prop) (hK : K (.fz SgT (sgn (x * ((2 ^ k : Nat) : Int)))) []) : ACall Try.prog G 68 [.fz SgT (sgn x), .fz int (k : Int)] [] K := by
  refine acall_mk (E := envAt G 17 0) (envOk _ _ _) Try.func68 rfl rfl rfl rfl rfl ?_
  (repeat' (first | exact trivial | exact fun h => h | refine And.intro ?_ ?_ | (intro hb; first | (simp at hb; done) | (simp at hb) | skip) | omega | exact rfl | exact Nat.le_refl _ | (show _ + 1 ≤ 4294967296; omega) | (dsimp only; omega) | (show (_ : Int) ≤ (_ : Int); omega) | (show _ < List.length _; simp only [List.length_set, List.length_append, List.length_take]; omega) | (show wantB _ _ = true; simp; done) | (show wantB _ _ = true; simp; omega) | (show (_ : Bool) = _; simp_all; done) | (exfalso; omega) | refine aRegion_auto (by decide +kernel) ?_ | fail))
  refine ⟨Int × Nat, fun s => ⟨[(1, .fz int s.2), (2, .ptr 0 0), (4, .ptr 1 0)], [.box [.fz .bool (sgn s.1).1, .fz LI (sgn s.1).2], .box [.fz .bool false, .nilSl]]⟩, fun s => s.2 ≤ k ∧ s.1 * ((2 ^ s.2 : Nat) : Int) = x * ((2 ^ k : Nat) : Int) ∧ Bd (B + k - s.2) s.1, fun s => s.2, (x, k), ⟨Nat.le_refl _, rfl, show Bd (B + k - k) x from hx.mono (by omega)⟩, Ent.sub rfl ?_, ?_⟩
  · (repeat' (first | exact trivial | exact rfl | refine And.intro ?_ ?_))
  rintro ⟨z, n⟩ ⟨hn, hv, hz⟩
  have hn : n ≤ k := hn
  have hv : z * ((2 ^ n : Nat) : Int) = x * ((2 ^ k : Nat) : Int) := hv
  have hz : Bd (B + k - n) z := hz
  show awp _ _ _ ⟨[(1, .fz int n), (2, .ptr 0 0), (4, .ptr 1 0)], [.box [.fz .bool (sgn z).1, .fz LI (sgn z).2], .box [.fz .bool false, .nilSl]]⟩
  by_cases h : 19 ≤ n
  · have hM := signedMulA G z 524288 (hz.sz (by omega)) (Bd.sz (k := 20) (show Int.natAbs 524288 < 2 ^ 20 by decide) (by omega))
    have hO := signedOfA G 524288 (by omega)
    have e0 : ((524288 : Nat) : Int) = 524288 := rfl
    rw [e0] at hO
    obtain ⟨z', hz'⟩ : ∃ z', z' = z * 524288 := ⟨_, rfl⟩
    rw [← hz'] at hM
    have hgo : z' * ((2 ^ (n - 19) : Nat) : Int) = x * ((2 ^ k : Nat) : Int) ∧ Bd (B + k - (n - 19)) z' := by
      rw [← hv, hz', Int.mul_assoc]
      refine ⟨?_, ?_⟩
      · congr 1
        have : (2 : Nat) ^ n = 524288 * 2 ^ (n - 19) := by rw [show (524288 : Nat) = 2 ^ 19 by decide, ← Nat.pow_add]; congr 1; omega
        rw [this, Int.natCast_mul]; rfl
      · unfold Bd at hz ⊢
        rw [Int.natAbs_mul, show B + k - (n - 19) = (B + k - n) + 19 by omega, Nat.pow_add]
        exact Nat.mul_lt_mul_of_pos_right hz (by decide)
    generalize hs3 : sgn z = s3 at *
    generalize hs4 : sgn z' = s4 at *
    generalize hs5 : sgn 524288 = s5 at *
    obtain ⟨b3, l3⟩ := s3
    obtain ⟨b4, l4⟩ := s4
    obtain ⟨b5, l5⟩ := s5
    (repeat' (first | exact trivial | exact fun h => h | refine And.intro ?_ ?_ | (intro hb; first | (simp at hb; done) | (simp at hb) | skip) | omega | exact rfl | exact Nat.le_refl _ | (show _ + 1 ≤ 4294967296; omega) | (dsimp only; omega) | (show (_ : Int) ≤ (_ : Int); omega) | (show _ < List.length _; simp only [List.length_set, List.length_append, List.length_take]; omega) | (show wantB _ _ = true; simp; done) | (show wantB _ _ = true; simp; omega) | (show (_ : Bool) = _; simp_all; done) | (exfalso; omega) | refine aRegion_auto (by decide +kernel) ?_ | fail))
    apply exEff
    · refine acall_frame0 rfl (hO _ ?_)
      exact ⟨rfl, rfl⟩
    (repeat' (first | exact trivial | exact fun h => h | refine And.intro ?_ ?_ | (intro hb; first | (simp at hb; done) | (simp at hb) | skip) | omega | exact rfl | exact Nat.le_refl _ | (show _ + 1 ≤ 4294967296; omega) | (dsimp only; omega) | (show (_ : Int) ≤ (_ : Int); omega) | (show _ < List.length _; simp only [List.length_set, List.length_append, List.length_take]; omega) | (show wantB _ _ = true; simp; done) | (show wantB _ _ = true; simp; omega) | (show (_ : Bool) = _; simp_all; done) | (exfalso; omega) | refine aRegion_auto (by decide +kernel) ?_ | fail))
    apply exEff
    · refine acall_conv [.dat SgT, .keep] _ _ _ rfl trivial (acall_frame0 rfl (hM _ ?_))
      exact ⟨rfl, rfl⟩
    (apply exEff; focus (repeat' (first | exact ⟨rfl, rfl⟩ | exact trivial | refine And.intro ?_ ?_ | omega | exact Nat.le_refl _ | (show _ + 1 ≤ 4294967296; omega))))
    (repeat' (first | exact trivial | exact fun h => h | refine And.intro ?_ ?_ | (intro hb; first | (simp at hb; done) | (simp at hb) | skip) | omega | exact rfl | exact Nat.le_refl _ | (show _ + 1 ≤ 4294967296; omega) | (dsimp only; omega) | (show (_ : Int) ≤ (_ : Int); omega) | (show _ < List.length _; simp only [List.length_set, List.length_append, List.length_take]; omega) | (show wantB _ _ = true; simp; done) | (show wantB _ _ = true; simp; omega) | (show (_ : Bool) = _; simp_all; done) | (exfalso; omega) | refine aRegion_auto (by decide +kernel) ?_ | fail))
    refine ⟨(z', n - 19), ⟨by show n - 19 ≤ k; omega, hgo⟩, by show n - 19 < n; omega, Ent.sub ?_ ?_⟩
    · show _ = [AO.box [.fz .bool (sgn z').1, .fz LI (sgn z').2], _]
      rw [hs4]
    · (repeat' (first | exact trivial | exact rfl | refine And.intro ?_ ?_))
      exact congrArg (AV.fz int) (show (n : Int) - 19 = ((n - 19 : Nat) : Int) by omega)
  · have hM := signedMulA G z ((2 ^ n : Nat) : Int) (hz.sz (by omega)) (Bd.sz (k := 20) (by unfold Bd; rw [Int.natAbs_natCast]; exact Nat.pow_lt_pow_right (by decide) (by omega)) (by omega))
    have hO := signedOfA G (2 ^ n) (Nat.le_trans (Nat.pow_le_pow_right (by decide) (show n ≤ 20 by omega)) (by decide))
    have hw : IntKind.i64.wrap (1 * 2 ^ (min (Int.toNat (n : Int)) 64)) = ((2 ^ n : Nat) : Int) := by
      have : ∀ m < 19, IntKind.i64.wrap (1 * 2 ^ (min (Int.toNat ((m : Nat) : Int)) 64)) = ((2 ^ m : Nat) : Int) := by decide
      exact this n (by omega)
    rw [hv] at hM
    generalize x * ((2 ^ k : Nat) : Int) = z' at *
    generalize ((2 ^ n : Nat) : Int) = q at *
    generalize hs3 : sgn z = s3 at *
    generalize hs4 : sgn z' = s4 at *
    generalize hs5 : sgn q = s5 at *
    obtain ⟨b3, l3⟩ := s3
    obtain ⟨b4, l4⟩ := s4
    obtain ⟨b5, l5⟩ := s5
    (repeat' (first | exact trivial | exact fun h => h | refine And.intro ?_ ?_ | (intro hb; first | (simp at hb; done) | (simp at hb) | skip) | omega | exact rfl | exact Nat.le_refl _ | (show _ + 1 ≤ 4294967296; omega) | (dsimp only; omega) | (show (_ : Int) ≤ (_ : Int); omega) | (show _ < List.length _; simp only [List.length_set, List.length_append, List.length_take]; omega) | (show wantB _ _ = true; simp; done) | (show wantB _ _ = true; simp; omega) | (show (_ : Bool) = _; simp_all; done) | (exfalso; omega) | refine aRegion_auto (by decide +kernel) ?_ | fail))
    show forceV (AV.fz int (IntKind.i64.wrap (1 * 2 ^ (min (Int.toNat (n : Int)) 64)))) _
    rw [hw]
    (repeat' (first | exact trivial | exact fun h => h | refine And.intro ?_ ?_ | (intro hb; first | (simp at hb; done) | (simp at hb) | skip) | omega | exact rfl | exact Nat.le_refl _ | (show _ + 1 ≤ 4294967296; omega) | (dsimp only; omega) | (show (_ : Int) ≤ (_ : Int); omega) | (show _ < List.length _; simp only [List.length_set, List.length_append, List.length_take]; omega) | (show wantB _ _ = true; simp; done) | (show wantB _ _ = true; simp; omega) | (show (_ : Bool) = _; simp_all; done) | (exfalso; omega) | refine aRegion_auto (by decide +kernel) ?_ | fail))
    apply exEff
    · refine acall_frame0 rfl (hO _ ?_)
      exact ⟨rfl, rfl⟩
    (repeat' (first | exact trivial | exact fun h => h | refine And.intro ?_ ?_ | (intro hb; first | (simp at hb; done) | (simp at hb) | skip) | omega | exact rfl | exact Nat.le_refl _ | (show _ + 1 ≤ 4294967296; omega) | (dsimp only; omega) | (show (_ : Int) ≤ (_ : Int); omega) | (show _ < List.length _; simp only [List.length_set, List.length_append, List.length_take]; omega) | (show wantB _ _ = true; simp; done) | (show wantB _ _ = true; simp; omega) | (show (_ : Bool) = _; simp_all; done) | (exfalso; omega) | refine aRegion_auto (by decide +kernel) ?_ | fail))
    apply exEff
    · refine acall_conv [.dat SgT, .keep] _ _ _ rfl trivial (acall_frame0 rfl (hM _ ?_))
      exact ⟨rfl, rfl⟩
    (apply exEff; focus (repeat' (first | exact ⟨rfl, rfl⟩ | exact trivial | refine And.intro ?_ ?_ | omega | exact Nat.le_refl _ | (show _ + 1 ≤ 4294967296; omega))))
    (repeat' (first | exact trivial | exact fun h => h | refine And.intro ?_ ?_ | (intro hb; first | (simp at hb; done) | (simp at hb) | skip) | omega | exact rfl | exact Nat.le_refl _ | (show _ + 1 ≤ 4294967296; omega) | (dsimp only; omega) | (show (_ : Int) ≤ (_ : Int); omega) | (show _ < List.length _; simp only [List.length_set, List.length_append, List.length_take]; omega) | (show wantB _ _ = true; simp; done) | (show wantB _ _ = true; simp; omega) | (show (_ : Bool) = _; simp_all; done) | (exfalso; omega) | refine aRegion_auto (by decide +kernel) ?_ | fail))
    refine ⟨_, _, (REnt.conv1 (.dat SgT) _ rfl trivial).trans (REnt.drop ⟨rfl, rfl⟩), ?_⟩
    exact hK
end Go.Proofs.Ytlmmhmoihmlljaa
/-
  Exact numbers.
-/
namespace Go.Proofs.Ytlmmhmoihmlljaa
open Go Go.Ab Go.RowKit
set_option maxRecDepth 100000
theorem exactMulA (G : List (Nat × Value)) (x y p q : Int) (hx : Sz x) (hy : Sz y) (hp : -100000 ≤ p ∧ p ≤ 100000) (hq : -100000 ≤ q ∧ q ≤ 100000) (K : AV → List AO → Prop) (hK : K (.fz ExT (sgn (x * y), p + q)) []) : ACall Try.prog G 31 [.fz ExT (sgn x, p), .fz ExT (sgn y, q)] [] K := by
  have hM := signedMulA G x y hx hy
  generalize sgn x = sx at *
  generalize sgn y = sy at *
  generalize sgn (x * y) = sz at *
  obtain ⟨x1, x2⟩ := sx
  obtain ⟨y1, y2⟩ := sy
  obtain ⟨z1, z2⟩ := sz
  refine acall_mk (E := envAt G 16 0) (envOk _ _ _) Try.func31 rfl rfl rfl rfl rfl ?_
  (repeat' (first | exact trivial | exact fun h => h | refine And.intro ?_ ?_ | (intro hb; first | (simp at hb; done) | (simp at hb) | skip) | omega | exact rfl | exact Nat.le_refl _ | (show _ + 1 ≤ 4294967296; omega) | (dsimp only; omega) | (show (_ : Int) ≤ (_ : Int); omega) | (show _ < List.length _; simp only [List.length_set, List.length_append, List.length_take]; omega) | (show wantB _ _ = true; simp; done) | (show wantB _ _ = true; simp; omega) | (show (_ : Bool) = _; simp_all; done) | (exfalso; omega) | refine aRegion_auto (by decide +kernel) ?_ | fail))
  apply exEff
  · refine acall_conv [.dat SgT, .dat SgT] _ _ _ rfl trivial (acall_frame0 rfl (hM _ ?_))
    exact ⟨rfl, rfl⟩
  (repeat' (first | exact trivial | exact fun h => h | refine And.intro ?_ ?_ | (intro hb; first | (simp at hb; done) | (simp at hb) | skip) | omega | exact rfl | exact Nat.le_refl _ | (show _ + 1 ≤ 4294967296; omega) | (dsimp only; omega) | (show (_ : Int) ≤ (_ : Int); omega) | (show _ < List.length _; simp only [List.length_set, List.length_append, List.length_take]; omega) | (show wantB _ _ = true; simp; done) | (show wantB _ _ = true; simp; omega) | (show (_ : Bool) = _; simp_all; done) | (exfalso; omega) | refine aRegion_auto (by decide +kernel) ?_ | fail))
  (apply exEff; focus (repeat' (first | exact ⟨rfl, rfl⟩ | exact trivial | refine And.intro ?_ ?_ | omega | exact Nat.le_refl _ | (show _ + 1 ≤ 4294967296; omega))))
  (repeat' (first | exact trivial | exact fun h => h | refine And.intro ?_ ?_ | (intro hb; first | (simp at hb; done) | (simp at hb) | skip) | omega | exact rfl | exact Nat.le_refl _ | (show _ + 1 ≤ 4294967296; omega) | (dsimp only; omega) | (show (_ : Int) ≤ (_ : Int); omega) | (show _ < List.length _; simp only [List.length_set, List.length_append, List.length_take]; omega) | (show wantB _ _ = true; simp; done) | (show wantB _ _ = true; simp; omega) | (show (_ : Bool) = _; simp_all; done) | (exfalso; omega) | refine aRegion_auto (by decide +kernel) ?_ | fail))
  refine ⟨_, _, (REnt.conv1 (.dat ExT) _ rfl trivial).trans (REnt.drop ⟨rfl, rfl⟩), ?_⟩
  exact hK
/-- the parts of a word -/
def fld (x : Nat) : Nat := x / 4503599627370496 % 2048
def mnt (x : Nat) : Nat := x % 4503599627370496
/-- the whole number, the power of 2 -/
def exZ (x : Nat) : Int := if Fp.ng x then -((if 0 < fld x then mnt x + 4503599627370496 else mnt x : Nat) : Int) else ((if 0 < fld x then mnt x + 4503599627370496 else mnt x : Nat) : Int)
def exP (x : Nat) : Int := (if 0 < fld x then (fld x : Int) - 1 else (fld x : Int)) - 1074
theorem eo_F (x : Nat) : ((x : Int).fdiv (2 ^ min (Int.toNat 52) IntKind.u64.bits)).tmod 2048 = (fld x : Int) := by
  have e : (2 : Int) ^ min (Int.toNat 52) IntKind.u64.bits = 4503599627370496 := by decide
  rw [e, Int.fdiv_eq_ediv_of_nonneg _ (by omega), Int.tmod_eq_emod_of_nonneg (by omega)]
  unfold fld; omega
theorem eo_N (x : Nat) (hx : x < 18446744073709551616) : ((x : Int).fdiv (2 ^ min (Int.toNat 63) IntKind.u64.bits) == 1) = Fp.ng x := by
  have e : (2 : Int) ^ min (Int.toNat 63) IntKind.u64.bits = 9223372036854775808 := by decide
  rw [e, Int.fdiv_eq_ediv_of_nonneg _ (by omega)]
  unfold Fp.ng
  rw [Bool.eq_iff_iff, beq_iff_eq, beq_iff_eq]
  show _ ↔ x / 9223372036854775808 % 2 = 1
  omega
theorem eo_M (x : Nat) : (x : Int).tmod 4503599627370496 = (mnt x : Int) := by
  rw [Int.tmod_eq_emod_of_nonneg (by omega)]
  unfold mnt; omega
theorem eo_s (x : Nat) : sgn (exZ x) = (Fp.ng x && decide (0 < (if 0 < fld x then mnt x + 4503599627370496 else mnt x)), Bg.dg (if 0 < fld x then mnt x + 4503599627370496 else mnt x)) := by
  unfold exZ
  generalize (if 0 < fld x then mnt x + 4503599627370496 else mnt x) = n
  cases Fp.ng x
  · unfold sgn
    rw [if_neg (by decide), decide_eq_false (by omega), Int.natAbs_natCast]; rfl
  · unfold sgn
    rw [if_pos rfl, Int.natAbs_neg, Int.natAbs_natCast, Bool.true_and]
    congr 1
    exact decide_eq_decide.2 (by omega)
theorem exactOfA (G : List (Nat × Value)) (x : Nat) (hx : x < 18446744073709551616) (K : AV → List AO → Prop) (hK : K (.fz ExT (sgn (exZ x), exP x)) []) : ACall Try.prog G 28 [.fz F64 x] [] K := by
  have hB : ∀ K : AV → List AO → Prop, K (.fz (.int .u64) (x : Int)) [] → ACall Try.prog G 50 [.fz F64 x] [] K := by
    intro K hK
    refine acall_ext (r := .fz (.int .u64) (x : Int)) ?_ hK
    intro c H hA hG vs hv
    unfold RelL at hv
    obtain ⟨v, l, rfl, h1, h2⟩ := hv
    unfold RelL at h2
    subst h2
    rw [rel_flt.1 h1]
    exact ⟨_, f64bits x c.w, rel_int.2 rfl⟩
  have hF := eo_F x
  have hN := eo_N x hx
  have hF2 : ((x : Int).fdiv (2 ^ min 52 IntKind.u64.bits)).tmod 2048 = (fld x : Int) := hF
  have hM := eo_M x
  have bF : fld x < 2048 := by unfold fld; omega
  have bM : mnt x < 4503599627370496 := by unfold mnt; omega
  have hs := eo_s x
  rw [hs] at hK
  unfold exP at hK
  generalize fld x = f at *
  generalize mnt x = m at *
  by_cases hf0 : 0 < f
  · simp only [if_pos hf0] at hK
    obtain ⟨n, hn⟩ : ∃ n, n = m + 4503599627370496 := ⟨_, rfl⟩
    rw [← hn] at hK
    have hT : (x : Int).tmod 4503599627370496 + 4503599627370496 = (n : Int) := by omega
    have hO := signedOfA G n (by omega)
    have e0 : sgn ((n : Nat) : Int) = (false, Bg.dg n) := by
      unfold sgn; rw [decide_eq_false (by omega), Int.natAbs_natCast]
    rw [e0] at hO
    generalize Bg.dg n = l at *
    refine acall_mk (E := envAt G 36 0) (envOk _ _ _) Try.func28 rfl rfl rfl rfl rfl ?_
    (repeat' (first | exact trivial | exact fun h => h | refine And.intro ?_ ?_ | (intro hb; first | (simp at hb; done) | (simp at hb) | skip) | omega | exact rfl | exact Nat.le_refl _ | (show _ + 1 ≤ 4294967296; omega) | (dsimp only; omega) | (show (_ : Int) ≤ (_ : Int); omega) | (show _ < List.length _; simp only [List.length_set, List.length_append, List.length_take]; omega) | (show wantB _ _ = true; simp; done) | (show wantB _ _ = true; simp; omega) | (show (_ : Bool) = _; simp_all; done) | (exfalso; omega) | refine aRegion_auto (by decide +kernel) ?_ | fail))
    refine acall_frame0 rfl (hB _ ?_)
    (repeat' (first | exact trivial | exact fun h => h | refine And.intro ?_ ?_ | (intro hb; first | (simp at hb; done) | (simp at hb) | skip) | omega | exact rfl | exact Nat.le_refl _ | (show _ + 1 ≤ 4294967296; omega) | (dsimp only; omega) | (show (_ : Int) ≤ (_ : Int); omega) | (show _ < List.length _; simp only [List.length_set, List.length_append, List.length_take]; omega) | (show wantB _ _ = true; simp; done) | (show wantB _ _ = true; simp; omega) | (show (_ : Bool) = _; simp_all; done) | (exfalso; omega) | refine aRegion_auto (by decide +kernel) ?_ | fail))
    refine acall_arg (acall_frame0 rfl (hO _ ?_)) ?_
    · (repeat' (first | exact trivial | exact fun h => h | refine And.intro ?_ ?_ | (intro hb; first | (simp at hb; done) | (simp at hb) | skip) | omega | exact rfl | exact Nat.le_refl _ | (show _ + 1 ≤ 4294967296; omega) | (dsimp only; omega) | (show (_ : Int) ≤ (_ : Int); omega) | (show _ < List.length _; simp only [List.length_set, List.length_append, List.length_take]; omega) | (show wantB _ _ = true; simp; done) | (show wantB _ _ = true; simp; omega) | (show (_ : Bool) = _; simp_all; done) | (exfalso; omega) | refine aRegion_auto (by decide +kernel) ?_ | fail))
      refine ⟨_, _, (REnt.conv1 (.dat ExT) _ rfl trivial).trans (REnt.drop ⟨rfl, rfl⟩), ?_⟩
      show K (.fz ExT ((bif (x : Int).fdiv (2 ^ min (Int.toNat 63) IntKind.u64.bits) == 1 then decide (0 < (x : Int).tmod 4503599627370496 + 4503599627370496) else false, l), ((x : Int).fdiv (2 ^ min (Int.toNat 52) IntKind.u64.bits)).tmod 2048 - 1 - 1074)) []
      rw [hN, hT, hF]
      refine (congrArg (fun q => K (.fz ExT ((q, l), _)) []) (?_ : _ = _)).mpr hK
      cases Fp.ng x
      · rfl
      · simp only [cond_true, Bool.true_and, decide_eq_decide]; omega
    · show [AV.fz int _] = [AV.fz int ((x : Int).tmod 4503599627370496 + 4503599627370496)]
      rw [hT]
  · simp only [if_neg hf0] at hK
    obtain ⟨n, hn⟩ : ∃ n, n = m := ⟨_, rfl⟩
    rw [← hn] at hK
    have hT : (x : Int).tmod 4503599627370496 = (n : Int) := by omega
    have hO := signedOfA G n (by omega)
    have e0 : sgn ((n : Nat) : Int) = (false, Bg.dg n) := by
      unfold sgn; rw [decide_eq_false (by omega), Int.natAbs_natCast]
    rw [e0] at hO
    generalize Bg.dg n = l at *
    refine acall_mk (E := envAt G 36 0) (envOk _ _ _) Try.func28 rfl rfl rfl rfl rfl ?_
    (repeat' (first | exact trivial | exact fun h => h | refine And.intro ?_ ?_ | (intro hb; first | (simp at hb; done) | (simp at hb) | skip) | omega | exact rfl | exact Nat.le_refl _ | (show _ + 1 ≤ 4294967296; omega) | (dsimp only; omega) | (show (_ : Int) ≤ (_ : Int); omega) | (show _ < List.length _; simp only [List.length_set, List.length_append, List.length_take]; omega) | (show wantB _ _ = true; simp; done) | (show wantB _ _ = true; simp; omega) | (show (_ : Bool) = _; simp_all; done) | (exfalso; omega) | refine aRegion_auto (by decide +kernel) ?_ | fail))
    refine acall_frame0 rfl (hB _ ?_)
    (repeat' (first | exact trivial | exact fun h => h | refine And.intro ?_ ?_ | (intro hb; first | (simp at hb; done) | (simp at hb) | skip) | omega | exact rfl | exact Nat.le_refl _ | (show _ + 1 ≤ 4294967296; omega) | (dsimp only; omega) | (show (_ : Int) ≤ (_ : Int); omega) | (show _ < List.length _; simp only [List.length_set, List.length_append, List.length_take]; omega) | (show wantB _ _ = true; simp; done) | (show wantB _ _ = true; simp; omega) | (show (_ : Bool) = _; simp_all; done) | (exfalso; omega) | refine aRegion_auto (by decide +kernel) ?_ | fail))
    refine acall_arg (acall_frame0 rfl (hO _ ?_)) ?_
    · (repeat' (first | exact trivial | exact fun h => h | refine And.intro ?_ ?_ | (intro hb; first | (simp at hb; done) | (simp at hb) | skip) | omega | exact rfl | exact Nat.le_refl _ | (show _ + 1 ≤ 4294967296; omega) | (dsimp only; omega) | (show (_ : Int) ≤ (_ : Int); omega) | (show _ < List.length _; simp only [List.length_set, List.length_append, List.length_take]; omega) | (show wantB _ _ = true; simp; done) | (show wantB _ _ = true; simp; omega) | (show (_ : Bool) = _; simp_all; done) | (exfalso; omega) | refine aRegion_auto (by decide +kernel) ?_ | fail))
      refine ⟨_, _, (REnt.conv1 (.dat ExT) _ rfl trivial).trans (REnt.drop ⟨rfl, rfl⟩), ?_⟩
      show K (.fz ExT ((bif (x : Int).fdiv (2 ^ min (Int.toNat 63) IntKind.u64.bits) == 1 then decide (0 < (x : Int).tmod 4503599627370496) else false, l), ((x : Int).fdiv (2 ^ min (Int.toNat 52) IntKind.u64.bits)).tmod 2048 - 1074)) []
      rw [hN, hT, hF]
      refine (congrArg (fun q => K (.fz ExT ((q, l), _)) []) (?_ : _ = _)).mpr hK
      cases Fp.ng x
      · rfl
      · simp only [cond_true, Bool.true_and, decide_eq_decide]; omega
    · show [AV.fz int _] = [AV.fz int ((x : Int).tmod 4503599627370496)]
      rw [hT]
/-- what the whole number stands for, in units of the least -/
theorem ex_val (x : Nat) (h : Fp.fin x) : -1074 ≤ exP x ∧ exP x ≤ 971 ∧ Bd 53 (exZ x) ∧ exZ x * ((2 ^ (exP x + 1074).toNat : Nat) : Int) = Fp.sv x := by
  have hr : Fp.rg x < 9218868437227405312 := h
  have hrg : Fp.rg x = x % 9223372036854775808 := rfl
  have hf : fld x = Fp.rg x / 4503599627370496 := by unfold fld; omega
  have hm : mnt x = Fp.rg x % 4503599627370496 := by unfold mnt; omega
  have hf2 : fld x < 2047 := by omega
  have hmm : mnt x < 4503599627370496 := by omega
  refine ⟨by unfold exP; split <;> omega, by unfold exP; split <;> omega, ?_, ?_⟩
  · unfold Bd exZ
    have : (2 : Nat) ^ 53 = 9007199254740992 := by decide
    rw [this]
    cases Fp.ng x <;> simp only [Bool.false_eq_true, if_false, if_true] <;> split <;> omega
  · have key : (if 0 < fld x then mnt x + 4503599627370496 else mnt x) * 2 ^ (exP x + 1074).toNat = Fp.val Fp.BB (Fp.rg x) := by
      unfold exP Fp.val
      rw [show Fp.rg x / Fp.BB = fld x from hf.symm, show Fp.rg x % Fp.BB = mnt x from hm.symm]
      by_cases h0 : 0 < fld x
      · rw [if_pos h0, if_pos h0, if_neg (by show ¬ Fp.rg x < 4503599627370496; omega), Nat.add_comm]
        congr 2; omega
      · rw [if_neg h0, if_neg h0, if_pos (by show Fp.rg x < 4503599627370496; omega)]
        have : mnt x = Fp.rg x := by omega
        rw [this, show (((fld x : Int) - 1074) + 1074).toNat = 0 by omega, Nat.pow_zero, Nat.mul_one]
    unfold exZ Fp.sv
    generalize (if 0 < fld x then mnt x + 4503599627370496 else mnt x) = n at *
    rw [← key, Int.natCast_mul]
    cases Fp.ng x
    · rw [if_neg (by decide), if_neg (by decide)]
    · rw [if_pos rfl, if_pos rfl, Int.neg_mul]
end Go.Proofs.Ytlmmhmoihmlljaa
/-
  Exact numbers: sums, comparisons.
-/
namespace Go.Proofs.Ytlmmhmoihmlljaa
open Go Go.Ab Go.RowKit
set_option maxRecDepth 100000
theorem Bd.shift {B : Nat} {x : Int} (h : Bd B x) (k : Nat) : Bd (B + k) (x * ((2 ^ k : Nat) : Int)) := by
  unfold Bd at h ⊢
  rw [Int.natAbs_mul, Int.natAbs_natCast, Nat.pow_add]
  exact Nat.mul_lt_mul_of_pos_right h (Nat.pow_pos (by omega))
def adZ (x p y q : Int) : Int := x * ((2 ^ (p - min p q).toNat : Nat) : Int) + y * ((2 ^ (q - min p q).toNat : Nat) : Int)
theorem exactAddA (G : List (Nat × Value)) (x y p q : Int) (hx : Bd 20000 x) (hy : Bd 20000 y) (hp : -100000 ≤ p ∧ p ≤ 100000) (hq : -100000 ≤ q ∧ q ≤ 100000) (K : AV → List AO → Prop) (hK : K (.fz ExT (sgn (adZ x p y q), min p q)) []) : ACall Try.prog G 52 [.fz ExT (sgn x, p), .fz ExT (sgn y, q)] [] K := by
  by_cases h : p < q
  · have hS := shiftedA G y (q - p).toNat 20000 hy (by omega)
    have e1 : (((q - p).toNat : Nat) : Int) = q - p := by omega
    rw [e1] at hS
    have hb1 : Bd (20000 + (q - p).toNat) (y * ((2 ^ (q - p).toNat : Nat) : Int)) := by
      exact hy.shift _
    have e2 : adZ x p y q = y * ((2 ^ (q - p).toNat : Nat) : Int) + x := by
      unfold adZ
      rw [Int.min_eq_left (by omega), Int.sub_self, Int.add_comm]
      simp
    rw [e2, Int.min_eq_left (by omega)] at hK
    generalize y * ((2 ^ (q - p).toNat : Nat) : Int) = w at *
    have hA := signedAddA G w x (hb1.sz (by omega)) (hx.sz (by omega))
    generalize w + x = z at *
    generalize sgn x = sx at *
    generalize sgn y = sy at *
    generalize sgn z = sz at *
    generalize sgn w = sw at *
    obtain ⟨x1, x2⟩ := sx
    obtain ⟨y1, y2⟩ := sy
    obtain ⟨z1, z2⟩ := sz
    obtain ⟨w1, w2⟩ := sw
    refine acall_mk (E := envAt G 26 0) (envOk _ _ _) Try.func52 rfl rfl rfl rfl rfl ?_
    (repeat' (first | exact trivial | exact fun h => h | refine And.intro ?_ ?_ | (intro hb; first | (simp at hb; done) | (simp at hb) | skip) | omega | exact rfl | exact Nat.le_refl _ | (show _ + 1 ≤ 4294967296; omega) | (dsimp only; omega) | (show (_ : Int) ≤ (_ : Int); omega) | (show _ < List.length _; simp only [List.length_set, List.length_append, List.length_take]; omega) | (show wantB _ _ = true; simp; done) | (show wantB _ _ = true; simp; omega) | (show (_ : Bool) = _; simp_all; done) | (exfalso; omega) | refine aRegion_auto (by decide +kernel) ?_ | fail))
    apply exEff
    · refine acall_conv [.dat SgT, .keep] _ _ _ rfl trivial (acall_frame0 rfl (hS _ ?_))
      exact ⟨rfl, rfl⟩
    (repeat' (first | exact trivial | exact fun h => h | refine And.intro ?_ ?_ | (intro hb; first | (simp at hb; done) | (simp at hb) | skip) | omega | exact rfl | exact Nat.le_refl _ | (show _ + 1 ≤ 4294967296; omega) | (dsimp only; omega) | (show (_ : Int) ≤ (_ : Int); omega) | (show _ < List.length _; simp only [List.length_set, List.length_append, List.length_take]; omega) | (show wantB _ _ = true; simp; done) | (show wantB _ _ = true; simp; omega) | (show (_ : Bool) = _; simp_all; done) | (exfalso; omega) | refine aRegion_auto (by decide +kernel) ?_ | fail))
    apply exEff
    · refine acall_conv [.keep, .dat SgT] _ _ _ rfl trivial (acall_frame0 rfl (hA _ ?_))
      exact ⟨rfl, rfl⟩
    (repeat' (first | exact trivial | exact fun h => h | refine And.intro ?_ ?_ | (intro hb; first | (simp at hb; done) | (simp at hb) | skip) | omega | exact rfl | exact Nat.le_refl _ | (show _ + 1 ≤ 4294967296; omega) | (dsimp only; omega) | (show (_ : Int) ≤ (_ : Int); omega) | (show _ < List.length _; simp only [List.length_set, List.length_append, List.length_take]; omega) | (show wantB _ _ = true; simp; done) | (show wantB _ _ = true; simp; omega) | (show (_ : Bool) = _; simp_all; done) | (exfalso; omega) | refine aRegion_auto (by decide +kernel) ?_ | fail))
    (apply exEff; focus (repeat' (first | exact ⟨rfl, rfl⟩ | exact trivial | refine And.intro ?_ ?_ | omega | exact Nat.le_refl _ | (show _ + 1 ≤ 4294967296; omega))))
    (repeat' (first | exact trivial | exact fun h => h | refine And.intro ?_ ?_ | (intro hb; first | (simp at hb; done) | (simp at hb) | skip) | omega | exact rfl | exact Nat.le_refl _ | (show _ + 1 ≤ 4294967296; omega) | (dsimp only; omega) | (show (_ : Int) ≤ (_ : Int); omega) | (show _ < List.length _; simp only [List.length_set, List.length_append, List.length_take]; omega) | (show wantB _ _ = true; simp; done) | (show wantB _ _ = true; simp; omega) | (show (_ : Bool) = _; simp_all; done) | (exfalso; omega) | refine aRegion_auto (by decide +kernel) ?_ | fail))
    refine ⟨_, _, (REnt.conv1 (.dat ExT) _ rfl trivial).trans (REnt.drop ⟨rfl, rfl⟩), ?_⟩
    exact hK
  · have hS := shiftedA G x (p - q).toNat 20000 hx (by omega)
    have e1 : (((p - q).toNat : Nat) : Int) = p - q := by omega
    rw [e1] at hS
    have hb1 : Bd (20000 + (p - q).toNat) (x * ((2 ^ (p - q).toNat : Nat) : Int)) := by
      exact hx.shift _
    have e2 : adZ x p y q = x * ((2 ^ (p - q).toNat : Nat) : Int) + y := by
      unfold adZ
      rw [Int.min_eq_right (by omega), Int.sub_self]
      simp
    rw [e2, Int.min_eq_right (by omega)] at hK
    generalize x * ((2 ^ (p - q).toNat : Nat) : Int) = w at *
    have hA := signedAddA G w y (hb1.sz (by omega)) (hy.sz (by omega))
    generalize w + y = z at *
    generalize sgn x = sx at *
    generalize sgn y = sy at *
    generalize sgn z = sz at *
    generalize sgn w = sw at *
    obtain ⟨x1, x2⟩ := sx
    obtain ⟨y1, y2⟩ := sy
    obtain ⟨z1, z2⟩ := sz
    obtain ⟨w1, w2⟩ := sw
    refine acall_mk (E := envAt G 26 0) (envOk _ _ _) Try.func52 rfl rfl rfl rfl rfl ?_
    (repeat' (first | exact trivial | exact fun h => h | refine And.intro ?_ ?_ | (intro hb; first | (simp at hb; done) | (simp at hb) | skip) | omega | exact rfl | exact Nat.le_refl _ | (show _ + 1 ≤ 4294967296; omega) | (dsimp only; omega) | (show (_ : Int) ≤ (_ : Int); omega) | (show _ < List.length _; simp only [List.length_set, List.length_append, List.length_take]; omega) | (show wantB _ _ = true; simp; done) | (show wantB _ _ = true; simp; omega) | (show (_ : Bool) = _; simp_all; done) | (exfalso; omega) | refine aRegion_auto (by decide +kernel) ?_ | fail))
    apply exEff
    · refine acall_conv [.dat SgT, .keep] _ _ _ rfl trivial (acall_frame0 rfl (hS _ ?_))
      exact ⟨rfl, rfl⟩
    (repeat' (first | exact trivial | exact fun h => h | refine And.intro ?_ ?_ | (intro hb; first | (simp at hb; done) | (simp at hb) | skip) | omega | exact rfl | exact Nat.le_refl _ | (show _ + 1 ≤ 4294967296; omega) | (dsimp only; omega) | (show (_ : Int) ≤ (_ : Int); omega) | (show _ < List.length _; simp only [List.length_set, List.length_append, List.length_take]; omega) | (show wantB _ _ = true; simp; done) | (show wantB _ _ = true; simp; omega) | (show (_ : Bool) = _; simp_all; done) | (exfalso; omega) | refine aRegion_auto (by decide +kernel) ?_ | fail))
    apply exEff
    · refine acall_conv [.keep, .dat SgT] _ _ _ rfl trivial (acall_frame0 rfl (hA _ ?_))
      exact ⟨rfl, rfl⟩
    (repeat' (first | exact trivial | exact fun h => h | refine And.intro ?_ ?_ | (intro hb; first | (simp at hb; done) | (simp at hb) | skip) | omega | exact rfl | exact Nat.le_refl _ | (show _ + 1 ≤ 4294967296; omega) | (dsimp only; omega) | (show (_ : Int) ≤ (_ : Int); omega) | (show _ < List.length _; simp only [List.length_set, List.length_append, List.length_take]; omega) | (show wantB _ _ = true; simp; done) | (show wantB _ _ = true; simp; omega) | (show (_ : Bool) = _; simp_all; done) | (exfalso; omega) | refine aRegion_auto (by decide +kernel) ?_ | fail))
    (apply exEff; focus (repeat' (first | exact ⟨rfl, rfl⟩ | exact trivial | refine And.intro ?_ ?_ | omega | exact Nat.le_refl _ | (show _ + 1 ≤ 4294967296; omega))))
    (repeat' (first | exact trivial | exact fun h => h | refine And.intro ?_ ?_ | (intro hb; first | (simp at hb; done) | (simp at hb) | skip) | omega | exact rfl | exact Nat.le_refl _ | (show _ + 1 ≤ 4294967296; omega) | (dsimp only; omega) | (show (_ : Int) ≤ (_ : Int); omega) | (show _ < List.length _; simp only [List.length_set, List.length_append, List.length_take]; omega) | (show wantB _ _ = true; simp; done) | (show wantB _ _ = true; simp; omega) | (show (_ : Bool) = _; simp_all; done) | (exfalso; omega) | refine aRegion_auto (by decide +kernel) ?_ | fail))
    refine ⟨_, _, (REnt.conv1 (.dat ExT) _ rfl trivial).trans (REnt.drop ⟨rfl, rfl⟩), ?_⟩
    exact hK
theorem adZ_bd {x y p q : Int} (hx : Bd 10000 x) (hy : Bd 10000 y) (hp : -4000 ≤ p ∧ p ≤ 4000) (hq : -4000 ≤ q ∧ q ≤ 4000) : Bd 20000 (adZ x p y q) := by
  have h1 : Bd 18000 (x * ((2 ^ (p - min p q).toNat : Nat) : Int)) := by
    refine Bd.mono (k := 10000 + (p - min p q).toNat) ?_ (by omega)
    exact hx.shift _
  have h2 : Bd 18000 (y * ((2 ^ (q - min p q).toNat : Nat) : Int)) := by
    refine Bd.mono (k := 10000 + (q - min p q).toNat) ?_ (by omega)
    exact hy.shift _
  exact (h1.add h2).mono (by omega)
theorem exactCmpA (G : List (Nat × Value)) (x y p q : Int) (hx : Bd 10000 x) (hy : Bd 10000 y) (hp : -4000 ≤ p ∧ p ≤ 4000) (hq : -4000 ≤ q ∧ q ≤ 4000) (K : AV → List AO → Prop) (hK : K (.fz int (sgI (adZ x p (-y) q))) []) : ACall Try.prog G 30 [.fz ExT (sgn x, p), .fz ExT (sgn y, q)] [] K := by
  have hB := signedBackA G y
  have hA := exactAddA G x (-y) p q (hx.mono (by omega)) (hy.neg.mono (by omega)) (by omega) (by omega)
  have hz := (adZ_bd hx hy.neg hp hq)
  have hC := signedCmpA G (adZ x p (-y) q) 0 (hz.sz (by omega)) (Bd.sz (k := 1) (by unfold Bd; decide) (by omega))
  rw [Int.sub_zero] at hC
  have e0 : sgn 0 = (false, []) := by unfold sgn; rw [show Int.natAbs 0 = 0 from rfl, Bg.dg_zero]; rfl
  rw [e0] at hC
  generalize adZ x p (-y) q = z at *
  generalize sgI z = r at *
  generalize sgn x = sx at *
  generalize sgn y = sy at *
  generalize sgn z = sz at *
  generalize sgn (-y) = sw at *
  obtain ⟨x1, x2⟩ := sx
  obtain ⟨y1, y2⟩ := sy
  obtain ⟨z1, z2⟩ := sz
  obtain ⟨w1, w2⟩ := sw
  generalize min p q = mm at *
  refine acall_mk (E := envAt G 17 0) (envOk _ _ _) Try.func30 rfl rfl rfl rfl rfl ?_
  (repeat' (first | exact trivial | exact fun h => h | refine And.intro ?_ ?_ | (intro hb; first | (simp at hb; done) | (simp at hb) | skip) | omega | exact rfl | exact Nat.le_refl _ | (show _ + 1 ≤ 4294967296; omega) | (dsimp only; omega) | (show (_ : Int) ≤ (_ : Int); omega) | (show _ < List.length _; simp only [List.length_set, List.length_append, List.length_take]; omega) | (show wantB _ _ = true; simp; done) | (show wantB _ _ = true; simp; omega) | (show (_ : Bool) = _; simp_all; done) | (exfalso; omega) | refine aRegion_auto (by decide +kernel) ?_ | fail))
  refine acall_conv [.dat SgT] _ _ _ rfl trivial (acall_frame0 rfl (hB _ ?_))
  (repeat' (first | exact trivial | exact fun h => h | refine And.intro ?_ ?_ | (intro hb; first | (simp at hb; done) | (simp at hb) | skip) | omega | exact rfl | exact Nat.le_refl _ | (show _ + 1 ≤ 4294967296; omega) | (dsimp only; omega) | (show (_ : Int) ≤ (_ : Int); omega) | (show _ < List.length _; simp only [List.length_set, List.length_append, List.length_take]; omega) | (show wantB _ _ = true; simp; done) | (show wantB _ _ = true; simp; omega) | (show (_ : Bool) = _; simp_all; done) | (exfalso; omega) | refine aRegion_auto (by decide +kernel) ?_ | fail))
  refine acall_conv [.dat ExT, .dat ExT] _ _ _ rfl trivial (acall_frame0 rfl (hA _ ?_))
  (repeat' (first | exact trivial | exact fun h => h | refine And.intro ?_ ?_ | (intro hb; first | (simp at hb; done) | (simp at hb) | skip) | omega | exact rfl | exact Nat.le_refl _ | (show _ + 1 ≤ 4294967296; omega) | (dsimp only; omega) | (show (_ : Int) ≤ (_ : Int); omega) | (show _ < List.length _; simp only [List.length_set, List.length_append, List.length_take]; omega) | (show wantB _ _ = true; simp; done) | (show wantB _ _ = true; simp; omega) | (show (_ : Bool) = _; simp_all; done) | (exfalso; omega) | refine aRegion_auto (by decide +kernel) ?_ | fail))
  refine acall_conv [.dat SgT, .dat SgT] _ _ _ rfl trivial (acall_frame0 rfl (hC _ ?_))
  (repeat' (first | exact trivial | exact fun h => h | refine And.intro ?_ ?_ | (intro hb; first | (simp at hb; done) | (simp at hb) | skip) | omega | exact rfl | exact Nat.le_refl _ | (show _ + 1 ≤ 4294967296; omega) | (dsimp only; omega) | (show (_ : Int) ≤ (_ : Int); omega) | (show _ < List.length _; simp only [List.length_set, List.length_append, List.length_take]; omega) | (show wantB _ _ = true; simp; done) | (show wantB _ _ = true; simp; omega) | (show (_ : Bool) = _; simp_all; done) | (exfalso; omega) | refine aRegion_auto (by decide +kernel) ?_ | refine ⟨_, _, REnt.drop ⟨rfl, rfl⟩, ?_⟩ | fail))
  exact hK
end Go.Proofs.Ytlmmhmoihmlljaa
/-
  Between two exact numbers.
-/
namespace Go.Proofs.Ytlmmhmoihmlljaa
open Go Go.Ab Go.RowKit
set_option maxRecDepth 100000
theorem sgI_le {z : Int} : sgI z ≤ 0 ↔ z ≤ 0 := by unfold sgI; split <;> (try split) <;> omega
theorem sgI_ge {z : Int} : 0 ≤ sgI z ↔ 0 ≤ z := by unfold sgI; split <;> (try split) <;> omega
/-- as a word's number: its digits, its power -/
def Sm (z p : Int) : Prop := Bd 53 z ∧ -1074 ≤ p ∧ p ≤ 971
theorem adZ_bd2 {x y p q : Int} (hx : Sm x p) (hy : Sm y q) : Bd 10000 (adZ x p y q) := by
  obtain ⟨hx, hp⟩ := hx
  obtain ⟨hy, hq⟩ := hy
  have h1 := (hx.shift (p - min p q).toNat).mono (n := 9000) (by omega)
  have h2 := (hy.shift (q - min p q).toNat).mono (n := 9000) (by omega)
  exact (h1.add h2).mono (by omega)
set_option maxHeartbeats 1000000 in
theorem insideAdd (G : List (Nat × Value)) (x p y q a i b j : Int) (hx : Sm x p) (hy : Sm y q) (ha : Sm a i) (hc : Sm b j)
    (h1 : adZ a i (-(adZ x p y q)) (min p q) ≤ 0) (h2 : adZ (adZ x p y q) (min p q) (-b) j ≤ 0) (K : AV → List AO → Prop) (hK : K (.fz .bool true) []) :
    ACall Try.prog G 29 [.fz ExT (sgn x, p), .fz ExT (sgn y, q), .fz ExT (sgn a, i), .fz ExT (sgn b, j), .fz (.int .u8) 43] [] K := by
  have hz0 := adZ_bd2 hx hy
  unfold Sm at hx hy ha hc
  have hA := exactAddA G x y p q (hx.1.mono (by omega)) (hy.1.mono (by omega)) (by omega) (by omega)
  have hC1 := exactCmpA G a (adZ x p y q) i (min p q) (ha.1.mono (by omega)) hz0 (by omega) (by omega)
  have hC2 := exactCmpA G (adZ x p y q) b (min p q) j hz0 (hc.1.mono (by omega)) (by omega) (by omega)
  have g1 := sgI_le.2 h1
  have g2 := sgI_le.2 h2
  generalize sgI (adZ a i (-(adZ x p y q)) (min p q)) = r1 at *
  generalize sgI (adZ (adZ x p y q) (min p q) (-b) j) = r2 at *
  generalize min p q = mm at *
  generalize adZ x p y q = z at *
  generalize sgn x = sx at *
  generalize sgn y = sy at *
  generalize sgn z = sz at *
  generalize sgn a = sa at *
  generalize sgn b = sb at *
  obtain ⟨x1, x2⟩ := sx
  obtain ⟨y1, y2⟩ := sy
  obtain ⟨z1, z2⟩ := sz
  obtain ⟨a1, a2⟩ := sa
  obtain ⟨b1, b2⟩ := sb
  refine acall_mk (E := envAt G 68 0) (envOk _ _ _) Try.func29 rfl rfl rfl rfl rfl ?_
  (repeat' (first | exact trivial | exact fun h => h | refine And.intro ?_ ?_ | (intro hb; first | (simp at hb; done) | (simp at hb) | skip) | omega | exact rfl | exact Nat.le_refl _ | (show _ + 1 ≤ 4294967296; omega) | (dsimp only; omega) | (show (_ : Int) ≤ (_ : Int); omega) | (show _ < List.length _; simp only [List.length_set, List.length_append, List.length_take]; omega) | (show wantB _ _ = true; simp; done) | (show wantB _ _ = true; simp; omega) | (show (_ : Bool) = _; simp_all; done) | (exfalso; omega) | refine aRegion_auto (by decide +kernel) ?_ | fail))
  refine acall_conv [.dat ExT, .dat ExT] _ _ _ rfl trivial (acall_frame0 rfl (hA _ ?_))
  (repeat' (first | exact trivial | exact fun h => h | refine And.intro ?_ ?_ | (intro hb; first | (simp at hb; done) | (simp at hb) | skip) | omega | exact rfl | exact Nat.le_refl _ | (show _ + 1 ≤ 4294967296; omega) | (dsimp only; omega) | (show (_ : Int) ≤ (_ : Int); omega) | (show _ < List.length _; simp only [List.length_set, List.length_append, List.length_take]; omega) | (show wantB _ _ = true; simp; done) | (show wantB _ _ = true; simp; omega) | (show (_ : Bool) = _; simp_all; done) | (exfalso; omega) | refine aRegion_auto (by decide +kernel) ?_ | fail))
  refine acall_conv [.dat ExT, .dat ExT] _ _ _ rfl trivial (acall_frame0 rfl (hC1 _ ?_))
  (repeat' (first | exact trivial | exact fun h => h | refine And.intro ?_ ?_ | (intro hb; first | (simp at hb; done) | (simp at hb) | skip) | omega | exact rfl | exact Nat.le_refl _ | (show _ + 1 ≤ 4294967296; omega) | (dsimp only; omega) | (show (_ : Int) ≤ (_ : Int); omega) | (show _ < List.length _; simp only [List.length_set, List.length_append, List.length_take]; omega) | (show wantB _ _ = true; simp; done) | (show wantB _ _ = true; simp; omega) | (show (_ : Bool) = _; simp_all; done) | (exfalso; omega) | refine aRegion_auto (by decide +kernel) ?_ | fail))
  refine acall_conv [.dat ExT, .dat ExT] _ _ _ rfl trivial (acall_frame0 rfl (hC2 _ ?_))
  (repeat' (first | exact trivial | exact fun h => h | refine And.intro ?_ ?_ | (intro hb; first | (simp at hb; done) | (simp at hb) | skip) | omega | exact rfl | exact Nat.le_refl _ | (show _ + 1 ≤ 4294967296; omega) | (dsimp only; omega) | (show (_ : Int) ≤ (_ : Int); omega) | (show _ < List.length _; simp only [List.length_set, List.length_append, List.length_take]; omega) | (show wantB _ _ = true; simp; done) | (show wantB _ _ = true; simp; omega) | (show (_ : Bool) = _; simp_all; done) | (exfalso; omega) | refine aRegion_auto (by decide +kernel) ?_ | refine ⟨_, _, REnt.drop ⟨rfl, rfl⟩, ?_⟩ | fail))
  refine (congrArg (fun q => K (.fz .bool q) []) (?_ : _ = true)).mpr hK
  rw [decide_eq_true g1, decide_eq_true g2]; rfl
set_option maxHeartbeats 1000000 in
theorem insideSub (G : List (Nat × Value)) (x p y q a i b j : Int) (hx : Sm x p) (hy : Sm y q) (ha : Sm a i) (hc : Sm b j)
    (h1 : adZ a i (-(adZ x p (-y) q)) (min p q) ≤ 0) (h2 : adZ (adZ x p (-y) q) (min p q) (-b) j ≤ 0) (K : AV → List AO → Prop) (hK : K (.fz .bool true) []) :
    ACall Try.prog G 29 [.fz ExT (sgn x, p), .fz ExT (sgn y, q), .fz ExT (sgn a, i), .fz ExT (sgn b, j), .fz (.int .u8) 45] [] K := by
  have hz0 := adZ_bd2 hx hy
  unfold Sm at hx hy ha hc
  have hA := exactAddA G x y p q (hx.1.mono (by omega)) (hy.1.mono (by omega)) (by omega) (by omega)
  have hz1 := adZ_bd2 (x := x) (y := -y) (p := p) (q := q) hx ⟨hy.1.neg, hy.2⟩
  have hN := signedBackA G y
  have hA2 := exactAddA G x (-y) p q (hx.1.mono (by omega)) (hy.1.neg.mono (by omega)) (by omega) (by omega)
  have hC1 := exactCmpA G a (adZ x p (-y) q) i (min p q) (ha.1.mono (by omega)) hz1 (by omega) (by omega)
  have hC2 := exactCmpA G (adZ x p (-y) q) b (min p q) j hz1 (hc.1.mono (by omega)) (by omega) (by omega)
  have g1 := sgI_le.2 h1
  have g2 := sgI_le.2 h2
  generalize sgI (adZ a i (-(adZ x p (-y) q)) (min p q)) = r1 at *
  generalize sgI (adZ (adZ x p (-y) q) (min p q) (-b) j) = r2 at *
  generalize min p q = mm at *
  generalize adZ x p y q = z at *
  generalize adZ x p (-y) q = w at *
  generalize sgn x = sx at *
  generalize sgn y = sy at *
  generalize sgn z = sz at *
  generalize sgn a = sa at *
  generalize sgn b = sb at *
  generalize sgn w = sw at *
  generalize sgn (-y) = sn at *
  obtain ⟨x1, x2⟩ := sx
  obtain ⟨y1, y2⟩ := sy
  obtain ⟨z1, z2⟩ := sz
  obtain ⟨a1, a2⟩ := sa
  obtain ⟨b1, b2⟩ := sb
  obtain ⟨w1, w2⟩ := sw
  obtain ⟨n1, n2⟩ := sn
  refine acall_mk (E := envAt G 68 0) (envOk _ _ _) Try.func29 rfl rfl rfl rfl rfl ?_
  (repeat' (first | exact trivial | exact fun h => h | refine And.intro ?_ ?_ | (intro hb; first | (simp at hb; done) | (simp at hb) | skip) | omega | exact rfl | exact Nat.le_refl _ | (show _ + 1 ≤ 4294967296; omega) | (dsimp only; omega) | (show (_ : Int) ≤ (_ : Int); omega) | (show _ < List.length _; simp only [List.length_set, List.length_append, List.length_take]; omega) | (show wantB _ _ = true; simp; done) | (show wantB _ _ = true; simp; omega) | (show (_ : Bool) = _; simp_all; done) | (exfalso; omega) | refine aRegion_auto (by decide +kernel) ?_ | fail))
  refine acall_conv [.dat ExT, .dat ExT] _ _ _ rfl trivial (acall_frame0 rfl (hA _ ?_))
  (repeat' (first | exact trivial | exact fun h => h | refine And.intro ?_ ?_ | (intro hb; first | (simp at hb; done) | (simp at hb) | skip) | omega | exact rfl | exact Nat.le_refl _ | (show _ + 1 ≤ 4294967296; omega) | (dsimp only; omega) | (show (_ : Int) ≤ (_ : Int); omega) | (show _ < List.length _; simp only [List.length_set, List.length_append, List.length_take]; omega) | (show wantB _ _ = true; simp; done) | (show wantB _ _ = true; simp; omega) | (show (_ : Bool) = _; simp_all; done) | (exfalso; omega) | refine aRegion_auto (by decide +kernel) ?_ | fail))
  refine acall_conv [.dat SgT] _ _ _ rfl trivial (acall_frame0 rfl (hN _ ?_))
  (repeat' (first | exact trivial | exact fun h => h | refine And.intro ?_ ?_ | (intro hb; first | (simp at hb; done) | (simp at hb) | skip) | omega | exact rfl | exact Nat.le_refl _ | (show _ + 1 ≤ 4294967296; omega) | (dsimp only; omega) | (show (_ : Int) ≤ (_ : Int); omega) | (show _ < List.length _; simp only [List.length_set, List.length_append, List.length_take]; omega) | (show wantB _ _ = true; simp; done) | (show wantB _ _ = true; simp; omega) | (show (_ : Bool) = _; simp_all; done) | (exfalso; omega) | refine aRegion_auto (by decide +kernel) ?_ | fail))
  refine acall_conv [.dat ExT, .dat ExT] _ _ _ rfl trivial (acall_frame0 rfl (hA2 _ ?_))
  (repeat' (first | exact trivial | exact fun h => h | refine And.intro ?_ ?_ | (intro hb; first | (simp at hb; done) | (simp at hb) | skip) | omega | exact rfl | exact Nat.le_refl _ | (show _ + 1 ≤ 4294967296; omega) | (dsimp only; omega) | (show (_ : Int) ≤ (_ : Int); omega) | (show _ < List.length _; simp only [List.length_set, List.length_append, List.length_take]; omega) | (show wantB _ _ = true; simp; done) | (show wantB _ _ = true; simp; omega) | (show (_ : Bool) = _; simp_all; done) | (exfalso; omega) | refine aRegion_auto (by decide +kernel) ?_ | fail))
  refine acall_conv [.dat ExT, .dat ExT] _ _ _ rfl trivial (acall_frame0 rfl (hC1 _ ?_))
  (repeat' (first | exact trivial | exact fun h => h | refine And.intro ?_ ?_ | (intro hb; first | (simp at hb; done) | (simp at hb) | skip) | omega | exact rfl | exact Nat.le_refl _ | (show _ + 1 ≤ 4294967296; omega) | (dsimp only; omega) | (show (_ : Int) ≤ (_ : Int); omega) | (show _ < List.length _; simp only [List.length_set, List.length_append, List.length_take]; omega) | (show wantB _ _ = true; simp; done) | (show wantB _ _ = true; simp; omega) | (show (_ : Bool) = _; simp_all; done) | (exfalso; omega) | refine aRegion_auto (by decide +kernel) ?_ | fail))
  refine acall_conv [.dat ExT, .dat ExT] _ _ _ rfl trivial (acall_frame0 rfl (hC2 _ ?_))
  (repeat' (first | exact trivial | exact fun h => h | refine And.intro ?_ ?_ | (intro hb; first | (simp at hb; done) | (simp at hb) | skip) | omega | exact rfl | exact Nat.le_refl _ | (show _ + 1 ≤ 4294967296; omega) | (dsimp only; omega) | (show (_ : Int) ≤ (_ : Int); omega) | (show _ < List.length _; simp only [List.length_set, List.length_append, List.length_take]; omega) | (show wantB _ _ = true; simp; done) | (show wantB _ _ = true; simp; omega) | (show (_ : Bool) = _; simp_all; done) | (exfalso; omega) | refine aRegion_auto (by decide +kernel) ?_ | refine ⟨_, _, REnt.drop ⟨rfl, rfl⟩, ?_⟩ | fail))
  refine (congrArg (fun q => K (.fz .bool q) []) (?_ : _ = true)).mpr hK
  rw [decide_eq_true g1, decide_eq_true g2]; rfl
set_option maxHeartbeats 1000000 in
theorem insideMul (G : List (Nat × Value)) (x p y q a i b j : Int) (hx : Sm x p) (hy : Sm y q) (ha : Sm a i) (hc : Sm b j)
    (h1 : adZ a i (-(x * y)) (p + q) ≤ 0) (h2 : adZ (x * y) (p + q) (-b) j ≤ 0) (K : AV → List AO → Prop) (hK : K (.fz .bool true) []) :
    ACall Try.prog G 29 [.fz ExT (sgn x, p), .fz ExT (sgn y, q), .fz ExT (sgn a, i), .fz ExT (sgn b, j), .fz (.int .u8) 42] [] K := by
  have hz0 := adZ_bd2 hx hy
  unfold Sm at hx hy ha hc
  have hA := exactAddA G x y p q (hx.1.mono (by omega)) (hy.1.mono (by omega)) (by omega) (by omega)
  have hz1 := hx.1.mul hy.1
  have hM := exactMulA G x y p q (hx.1.sz (by omega)) (hy.1.sz (by omega)) (by omega) (by omega)
  have hC1 := exactCmpA G a (x * y) i (p + q) (ha.1.mono (by omega)) (hz1.mono (by omega)) (by omega) (by omega)
  have hC2 := exactCmpA G (x * y) b (p + q) j (hz1.mono (by omega)) (hc.1.mono (by omega)) (by omega) (by omega)
  have g1 := sgI_le.2 h1
  have g2 := sgI_le.2 h2
  generalize sgI (adZ a i (-(x * y)) (p + q)) = r1 at *
  generalize sgI (adZ (x * y) (p + q) (-b) j) = r2 at *
  generalize min p q = mm at *
  generalize adZ x p y q = z at *
  generalize x * y = w at *
  generalize sgn x = sx at *
  generalize sgn y = sy at *
  generalize sgn z = sz at *
  generalize sgn a = sa at *
  generalize sgn b = sb at *
  generalize sgn w = sw at *
  obtain ⟨x1, x2⟩ := sx
  obtain ⟨y1, y2⟩ := sy
  obtain ⟨z1, z2⟩ := sz
  obtain ⟨a1, a2⟩ := sa
  obtain ⟨b1, b2⟩ := sb
  obtain ⟨w1, w2⟩ := sw
  refine acall_mk (E := envAt G 68 0) (envOk _ _ _) Try.func29 rfl rfl rfl rfl rfl ?_
  (repeat' (first | exact trivial | exact fun h => h | refine And.intro ?_ ?_ | (intro hb; first | (simp at hb; done) | (simp at hb) | skip) | omega | exact rfl | exact Nat.le_refl _ | (show _ + 1 ≤ 4294967296; omega) | (dsimp only; omega) | (show (_ : Int) ≤ (_ : Int); omega) | (show _ < List.length _; simp only [List.length_set, List.length_append, List.length_take]; omega) | (show wantB _ _ = true; simp; done) | (show wantB _ _ = true; simp; omega) | (show (_ : Bool) = _; simp_all; done) | (exfalso; omega) | refine aRegion_auto (by decide +kernel) ?_ | fail))
  refine acall_conv [.dat ExT, .dat ExT] _ _ _ rfl trivial (acall_frame0 rfl (hA _ ?_))
  (repeat' (first | exact trivial | exact fun h => h | refine And.intro ?_ ?_ | (intro hb; first | (simp at hb; done) | (simp at hb) | skip) | omega | exact rfl | exact Nat.le_refl _ | (show _ + 1 ≤ 4294967296; omega) | (dsimp only; omega) | (show (_ : Int) ≤ (_ : Int); omega) | (show _ < List.length _; simp only [List.length_set, List.length_append, List.length_take]; omega) | (show wantB _ _ = true; simp; done) | (show wantB _ _ = true; simp; omega) | (show (_ : Bool) = _; simp_all; done) | (exfalso; omega) | refine aRegion_auto (by decide +kernel) ?_ | fail))
  refine acall_conv [.dat ExT, .dat ExT] _ _ _ rfl trivial (acall_frame0 rfl (hM _ ?_))
  (repeat' (first | exact trivial | exact fun h => h | refine And.intro ?_ ?_ | (intro hb; first | (simp at hb; done) | (simp at hb) | skip) | omega | exact rfl | exact Nat.le_refl _ | (show _ + 1 ≤ 4294967296; omega) | (dsimp only; omega) | (show (_ : Int) ≤ (_ : Int); omega) | (show _ < List.length _; simp only [List.length_set, List.length_append, List.length_take]; omega) | (show wantB _ _ = true; simp; done) | (show wantB _ _ = true; simp; omega) | (show (_ : Bool) = _; simp_all; done) | (exfalso; omega) | refine aRegion_auto (by decide +kernel) ?_ | fail))
  refine acall_conv [.dat ExT, .dat ExT] _ _ _ rfl trivial (acall_frame0 rfl (hC1 _ ?_))
  (repeat' (first | exact trivial | exact fun h => h | refine And.intro ?_ ?_ | (intro hb; first | (simp at hb; done) | (simp at hb) | skip) | omega | exact rfl | exact Nat.le_refl _ | (show _ + 1 ≤ 4294967296; omega) | (dsimp only; omega) | (show (_ : Int) ≤ (_ : Int); omega) | (show _ < List.length _; simp only [List.length_set, List.length_append, List.length_take]; omega) | (show wantB _ _ = true; simp; done) | (show wantB _ _ = true; simp; omega) | (show (_ : Bool) = _; simp_all; done) | (exfalso; omega) | refine aRegion_auto (by decide +kernel) ?_ | fail))
  refine acall_conv [.dat ExT, .dat ExT] _ _ _ rfl trivial (acall_frame0 rfl (hC2 _ ?_))
  (repeat' (first | exact trivial | exact fun h => h | refine And.intro ?_ ?_ | (intro hb; first | (simp at hb; done) | (simp at hb) | skip) | omega | exact rfl | exact Nat.le_refl _ | (show _ + 1 ≤ 4294967296; omega) | (dsimp only; omega) | (show (_ : Int) ≤ (_ : Int); omega) | (show _ < List.length _; simp only [List.length_set, List.length_append, List.length_take]; omega) | (show wantB _ _ = true; simp; done) | (show wantB _ _ = true; simp; omega) | (show (_ : Bool) = _; simp_all; done) | (exfalso; omega) | refine aRegion_auto (by decide +kernel) ?_ | refine ⟨_, _, REnt.drop ⟨rfl, rfl⟩, ?_⟩ | fail))
  refine (congrArg (fun q => K (.fz .bool q) []) (?_ : _ = true)).mpr hK
  rw [decide_eq_true g1, decide_eq_true g2]; rfl
set_option maxHeartbeats 1000000 in
theorem insideDivP (G : List (Nat × Value)) (x p y q a i b j : Int) (hx : Sm x p) (hy : Sm y q) (ha : Sm a i) (hc : Sm b j) (hy0 : ¬ y < 0)
    (h1 : adZ (a * y) (i + q) (-x) p ≤ 0) (h2 : adZ x p (-(b * y)) (j + q) ≤ 0) (K : AV → List AO → Prop) (hK : K (.fz .bool true) []) :
    ACall Try.prog G 29 [.fz ExT (sgn x, p), .fz ExT (sgn y, q), .fz ExT (sgn a, i), .fz ExT (sgn b, j), .fz (.int .u8) 47] [] K := by
  have hz0 := adZ_bd2 hx hy
  unfold Sm at hx hy ha hc
  have hA := exactAddA G x y p q (hx.1.mono (by omega)) (hy.1.mono (by omega)) (by omega) (by omega)
  have hz1 := ha.1.mul hy.1
  have hz2 := hc.1.mul hy.1
  have hM1 := exactMulA G a y i q (ha.1.sz (by omega)) (hy.1.sz (by omega)) (by omega) (by omega)
  have hM2 := exactMulA G b y j q (hc.1.sz (by omega)) (hy.1.sz (by omega)) (by omega) (by omega)
  have hC1 := exactCmpA G (a * y) x (i + q) p (hz1.mono (by omega)) (hx.1.mono (by omega)) (by omega) (by omega)
  have hC2 := exactCmpA G x (b * y) p (j + q) (hx.1.mono (by omega)) (hz2.mono (by omega)) (by omega) (by omega)
  have g1 := sgI_le.2 h1
  have g2 := sgI_le.2 h2
  have hsy : (sgn y).1 = false := decide_eq_false hy0
  generalize sgI (adZ (a * y) (i + q) (-x) p) = r1 at *
  generalize sgI (adZ x p (-(b * y)) (j + q)) = r2 at *
  generalize min p q = mm at *
  generalize adZ x p y q = z at *
  generalize a * y = v at *
  generalize b * y = w at *
  generalize sgn x = sx at *
  generalize sgn y = sy at *
  generalize sgn z = sz at *
  generalize sgn a = sa at *
  generalize sgn b = sb at *
  generalize sgn w = sw at *
  generalize sgn v = sv at *
  obtain ⟨x1, x2⟩ := sx
  obtain ⟨y1, y2⟩ := sy
  obtain ⟨z1, z2⟩ := sz
  obtain ⟨a1, a2⟩ := sa
  obtain ⟨b1, b2⟩ := sb
  obtain ⟨w1, w2⟩ := sw
  obtain ⟨v1, v2⟩ := sv
  have hsy : y1 = false := hsy
  subst hsy
  refine acall_mk (E := envAt G 68 0) (envOk _ _ _) Try.func29 rfl rfl rfl rfl rfl ?_
  (repeat' (first | exact trivial | exact fun h => h | refine And.intro ?_ ?_ | (intro hb; first | (simp at hb; done) | (simp at hb) | skip) | omega | exact rfl | exact Nat.le_refl _ | (show _ + 1 ≤ 4294967296; omega) | (dsimp only; omega) | (show (_ : Int) ≤ (_ : Int); omega) | (show _ < List.length _; simp only [List.length_set, List.length_append, List.length_take]; omega) | (show wantB _ _ = true; simp; done) | (show wantB _ _ = true; simp; omega) | (show (_ : Bool) = _; simp_all; done) | (exfalso; omega) | refine aRegion_auto (by decide +kernel) ?_ | fail))
  refine acall_conv [.dat ExT, .dat ExT] _ _ _ rfl trivial (acall_frame0 rfl (hA _ ?_))
  (repeat' (first | exact trivial | exact fun h => h | refine And.intro ?_ ?_ | (intro hb; first | (simp at hb; done) | (simp at hb) | skip) | omega | exact rfl | exact Nat.le_refl _ | (show _ + 1 ≤ 4294967296; omega) | (dsimp only; omega) | (show (_ : Int) ≤ (_ : Int); omega) | (show _ < List.length _; simp only [List.length_set, List.length_append, List.length_take]; omega) | (show wantB _ _ = true; simp; done) | (show wantB _ _ = true; simp; omega) | (show (_ : Bool) = _; simp_all; done) | (exfalso; omega) | refine aRegion_auto (by decide +kernel) ?_ | fail))
  apply exEff
  · refine acall_conv [.dat ExT, .dat ExT] _ _ _ rfl trivial (acall_frame0 rfl (hM1 _ ?_))
    exact ⟨rfl, rfl⟩
  (repeat' (first | exact trivial | exact fun h => h | refine And.intro ?_ ?_ | (intro hb; first | (simp at hb; done) | (simp at hb) | skip) | omega | exact rfl | exact Nat.le_refl _ | (show _ + 1 ≤ 4294967296; omega) | (dsimp only; omega) | (show (_ : Int) ≤ (_ : Int); omega) | (show _ < List.length _; simp only [List.length_set, List.length_append, List.length_take]; omega) | (show wantB _ _ = true; simp; done) | (show wantB _ _ = true; simp; omega) | (show (_ : Bool) = _; simp_all; done) | (exfalso; omega) | refine aRegion_auto (by decide +kernel) ?_ | fail))
  apply exEff
  · refine acall_conv [.keep, .dat ExT] _ _ _ rfl trivial (acall_frame0 rfl (hC1 _ ?_))
    exact ⟨rfl, rfl⟩
  (repeat' (first | exact trivial | exact fun h => h | refine And.intro ?_ ?_ | (intro hb; first | (simp at hb; done) | (simp at hb) | skip) | omega | exact rfl | exact Nat.le_refl _ | (show _ + 1 ≤ 4294967296; omega) | (dsimp only; omega) | (show (_ : Int) ≤ (_ : Int); omega) | (show _ < List.length _; simp only [List.length_set, List.length_append, List.length_take]; omega) | (show wantB _ _ = true; simp; done) | (show wantB _ _ = true; simp; omega) | (show (_ : Bool) = _; simp_all; done) | (exfalso; omega) | refine aRegion_auto (by decide +kernel) ?_ | fail))
  apply exEff
  · refine acall_conv [.dat ExT, .dat ExT] _ _ _ rfl trivial (acall_frame0 rfl (hM2 _ ?_))
    exact ⟨rfl, rfl⟩
  (repeat' (first | exact trivial | exact fun h => h | refine And.intro ?_ ?_ | (intro hb; first | (simp at hb; done) | (simp at hb) | skip) | omega | exact rfl | exact Nat.le_refl _ | (show _ + 1 ≤ 4294967296; omega) | (dsimp only; omega) | (show (_ : Int) ≤ (_ : Int); omega) | (show _ < List.length _; simp only [List.length_set, List.length_append, List.length_take]; omega) | (show wantB _ _ = true; simp; done) | (show wantB _ _ = true; simp; omega) | (show (_ : Bool) = _; simp_all; done) | (exfalso; omega) | refine aRegion_auto (by decide +kernel) ?_ | fail))
  apply exEff
  · refine acall_conv [.dat ExT, .keep] _ _ _ rfl trivial (acall_frame0 rfl (hC2 _ ?_))
    exact ⟨rfl, rfl⟩
  (repeat' (first | exact trivial | exact fun h => h | refine And.intro ?_ ?_ | (intro hb; first | (simp at hb; done) | (simp at hb) | skip) | omega | exact rfl | exact Nat.le_refl _ | (show _ + 1 ≤ 4294967296; omega) | (dsimp only; omega) | (show (_ : Int) ≤ (_ : Int); omega) | (show _ < List.length _; simp only [List.length_set, List.length_append, List.length_take]; omega) | (show wantB _ _ = true; simp; done) | (show wantB _ _ = true; simp; omega) | (show (_ : Bool) = _; simp_all; done) | (exfalso; omega) | refine aRegion_auto (by decide +kernel) ?_ | refine ⟨_, _, REnt.drop ⟨rfl, rfl⟩, ?_⟩ | fail))
  refine (congrArg (fun q => K (.fz .bool q) []) (?_ : _ = true)).mpr hK
  rw [decide_eq_true g1, decide_eq_true g2]; rfl
set_option maxHeartbeats 1000000 in
theorem insideDivN (G : List (Nat × Value)) (x p y q a i b j : Int) (hx : Sm x p) (hy : Sm y q) (ha : Sm a i) (hc : Sm b j) (hy0 : y < 0)
    (h1 : 0 ≤ adZ (a * y) (i + q) (-x) p) (h2 : 0 ≤ adZ x p (-(b * y)) (j + q)) (K : AV → List AO → Prop) (hK : K (.fz .bool true) []) :
    ACall Try.prog G 29 [.fz ExT (sgn x, p), .fz ExT (sgn y, q), .fz ExT (sgn a, i), .fz ExT (sgn b, j), .fz (.int .u8) 47] [] K := by
  have hz0 := adZ_bd2 hx hy
  unfold Sm at hx hy ha hc
  have hA := exactAddA G x y p q (hx.1.mono (by omega)) (hy.1.mono (by omega)) (by omega) (by omega)
  have hz1 := ha.1.mul hy.1
  have hz2 := hc.1.mul hy.1
  have hM1 := exactMulA G a y i q (ha.1.sz (by omega)) (hy.1.sz (by omega)) (by omega) (by omega)
  have hM2 := exactMulA G b y j q (hc.1.sz (by omega)) (hy.1.sz (by omega)) (by omega) (by omega)
  have hC1 := exactCmpA G (a * y) x (i + q) p (hz1.mono (by omega)) (hx.1.mono (by omega)) (by omega) (by omega)
  have hC2 := exactCmpA G x (b * y) p (j + q) (hx.1.mono (by omega)) (hz2.mono (by omega)) (by omega) (by omega)
  have g1 := sgI_ge.2 h1
  have g2 := sgI_ge.2 h2
  have hsy : (sgn y).1 = true := decide_eq_true hy0
  generalize sgI (adZ (a * y) (i + q) (-x) p) = r1 at *
  generalize sgI (adZ x p (-(b * y)) (j + q)) = r2 at *
  generalize min p q = mm at *
  generalize adZ x p y q = z at *
  generalize a * y = v at *
  generalize b * y = w at *
  generalize sgn x = sx at *
  generalize sgn y = sy at *
  generalize sgn z = sz at *
  generalize sgn a = sa at *
  generalize sgn b = sb at *
  generalize sgn w = sw at *
  generalize sgn v = sv at *
  obtain ⟨x1, x2⟩ := sx
  obtain ⟨y1, y2⟩ := sy
  obtain ⟨z1, z2⟩ := sz
  obtain ⟨a1, a2⟩ := sa
  obtain ⟨b1, b2⟩ := sb
  obtain ⟨w1, w2⟩ := sw
  obtain ⟨v1, v2⟩ := sv
  have hsy : y1 = true := hsy
  subst hsy
  refine acall_mk (E := envAt G 68 0) (envOk _ _ _) Try.func29 rfl rfl rfl rfl rfl ?_
  (repeat' (first | exact trivial | exact fun h => h | refine And.intro ?_ ?_ | (intro hb; first | (simp at hb; done) | (simp at hb) | skip) | omega | exact rfl | exact Nat.le_refl _ | (show _ + 1 ≤ 4294967296; omega) | (dsimp only; omega) | (show (_ : Int) ≤ (_ : Int); omega) | (show _ < List.length _; simp only [List.length_set, List.length_append, List.length_take]; omega) | (show wantB _ _ = true; simp; done) | (show wantB _ _ = true; simp; omega) | (show (_ : Bool) = _; simp_all; done) | (exfalso; omega) | refine aRegion_auto (by decide +kernel) ?_ | fail))
  refine acall_conv [.dat ExT, .dat ExT] _ _ _ rfl trivial (acall_frame0 rfl (hA _ ?_))
  (repeat' (first | exact trivial | exact fun h => h | refine And.intro ?_ ?_ | (intro hb; first | (simp at hb; done) | (simp at hb) | skip) | omega | exact rfl | exact Nat.le_refl _ | (show _ + 1 ≤ 4294967296; omega) | (dsimp only; omega) | (show (_ : Int) ≤ (_ : Int); omega) | (show _ < List.length _; simp only [List.length_set, List.length_append, List.length_take]; omega) | (show wantB _ _ = true; simp; done) | (show wantB _ _ = true; simp; omega) | (show (_ : Bool) = _; simp_all; done) | (exfalso; omega) | refine aRegion_auto (by decide +kernel) ?_ | fail))
  apply exEff
  · refine acall_conv [.dat ExT, .dat ExT] _ _ _ rfl trivial (acall_frame0 rfl (hM1 _ ?_))
    exact ⟨rfl, rfl⟩
  (repeat' (first | exact trivial | exact fun h => h | refine And.intro ?_ ?_ | (intro hb; first | (simp at hb; done) | (simp at hb) | skip) | omega | exact rfl | exact Nat.le_refl _ | (show _ + 1 ≤ 4294967296; omega) | (dsimp only; omega) | (show (_ : Int) ≤ (_ : Int); omega) | (show _ < List.length _; simp only [List.length_set, List.length_append, List.length_take]; omega) | (show wantB _ _ = true; simp; done) | (show wantB _ _ = true; simp; omega) | (show (_ : Bool) = _; simp_all; done) | (exfalso; omega) | refine aRegion_auto (by decide +kernel) ?_ | fail))
  apply exEff
  · refine acall_conv [.keep, .dat ExT] _ _ _ rfl trivial (acall_frame0 rfl (hC1 _ ?_))
    exact ⟨rfl, rfl⟩
  (repeat' (first | exact trivial | exact fun h => h | refine And.intro ?_ ?_ | (intro hb; first | (simp at hb; done) | (simp at hb) | skip) | omega | exact rfl | exact Nat.le_refl _ | (show _ + 1 ≤ 4294967296; omega) | (dsimp only; omega) | (show (_ : Int) ≤ (_ : Int); omega) | (show _ < List.length _; simp only [List.length_set, List.length_append, List.length_take]; omega) | (show wantB _ _ = true; simp; done) | (show wantB _ _ = true; simp; omega) | (show (_ : Bool) = _; simp_all; done) | (exfalso; omega) | refine aRegion_auto (by decide +kernel) ?_ | fail))
  apply exEff
  · refine acall_conv [.dat ExT, .dat ExT] _ _ _ rfl trivial (acall_frame0 rfl (hM2 _ ?_))
    exact ⟨rfl, rfl⟩
  (repeat' (first | exact trivial | exact fun h => h | refine And.intro ?_ ?_ | (intro hb; first | (simp at hb; done) | (simp at hb) | skip) | omega | exact rfl | exact Nat.le_refl _ | (show _ + 1 ≤ 4294967296; omega) | (dsimp only; omega) | (show (_ : Int) ≤ (_ : Int); omega) | (show _ < List.length _; simp only [List.length_set, List.length_append, List.length_take]; omega) | (show wantB _ _ = true; simp; done) | (show wantB _ _ = true; simp; omega) | (show (_ : Bool) = _; simp_all; done) | (exfalso; omega) | refine aRegion_auto (by decide +kernel) ?_ | fail))
  apply exEff
  · refine acall_conv [.dat ExT, .keep] _ _ _ rfl trivial (acall_frame0 rfl (hC2 _ ?_))
    exact ⟨rfl, rfl⟩
  (repeat' (first | exact trivial | exact fun h => h | refine And.intro ?_ ?_ | (intro hb; first | (simp at hb; done) | (simp at hb) | skip) | omega | exact rfl | exact Nat.le_refl _ | (show _ + 1 ≤ 4294967296; omega) | (dsimp only; omega) | (show (_ : Int) ≤ (_ : Int); omega) | (show _ < List.length _; simp only [List.length_set, List.length_append, List.length_take]; omega) | (show wantB _ _ = true; simp; done) | (show wantB _ _ = true; simp; omega) | (show (_ : Bool) = _; simp_all; done) | (exfalso; omega) | refine aRegion_auto (by decide +kernel) ?_ | refine ⟨_, _, REnt.drop ⟨rfl, rfl⟩, ?_⟩ | fail))
  refine (congrArg (fun q => K (.fz .bool q) []) (?_ : _ = true)).mpr hK
  rw [decide_eq_true g1, decide_eq_true g2]; rfl
end Go.Proofs.Ytlmmhmoihmlljaa
