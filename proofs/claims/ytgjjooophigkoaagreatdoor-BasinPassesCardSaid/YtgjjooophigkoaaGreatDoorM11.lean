/-
  BasinPasses: what it calls.
-/
import Derived.Test.YtgjjooophigkoaaGreatDoorM10
import Derived.LaidHandle
import Derived.LaidSub
import Derived.Test.YtgjjooophigkoaaGreatDoorTie
import Derived.Test.YtgjjooophigkoaaGreatDoorCards
import Derived.SevenTiedAt
import Derived.LaidMore
import Derived.Lay
import Derived.Deep.Slices
import Derived.Lib.SmallJoins
import Derived.Stop.Joined
import Derived.Conc.Holds
namespace Go.Proofs.YtgjjooophigkoaaGreatDoor
open Go Go.Ab Ps
set_option maxRecDepth 100000
theorem passes_one (E : Errs) (a : Ras) (hl : a.2.2.length ≤ 80) (K : AV → List AO → Prop) (h0 : rerr a ≠ 0 → K (.tup [.fz (.list PaT) [], .fz .raw (er E (rerr a))]) [])
    (h1 : rerr a = 0 → ∀ L : List Pa, L.length ≤ 720 → PL (hmI a) (hts a) (fun i k => i < a.1.toNat * a.2.1.toNat ∧ k ∈ arN a.1.toNat a.2.1.toNat i) L → K (.tup [.fz (.list PaT) L, .fz .raw .nilIface]) []) :
    ACall Tryz.prog (G8 E) 20 [.fz RasT a] [] K := by
  by_cases hv : rerr a = 0
  · have R := RasN.mk' hv
    have F := flowN a.1.toNat a.2.1.toNat (hts a) R.w0
    exact passes_ok E a hv R (by rw [← R.len]; exact hl) (hmI a) (by unfold basQ; rw [if_pos hv]) (fun i hi => by
      have := (Bp.home_ok F i hi).1
      have := R.wh
      have hs : a.1.toNat * a.2.1.toNat ≤ 80 := by rw [← R.len]; exact hl
      unfold hmI; omega) K (h1 hv)
  · have hK := h0 hv
    have h4 := rerr_in a
    refine acall_mk (E := envAt (G8 E) 105 0) (envOk _ _ _) Tryz.func20 rfl rfl rfl rfl rfl ?_
    (repeat' (first | exact trivial | exact fun h => h | refine And.intro ?_ ?_ | (intro hb; try simp at hb) | omega | exact rfl | exact Nat.le_refl _ | (show _ + 1 ≤ 4294967296; omega) | (dsimp only; omega) | (show (_ : Int) ≤ (_ : Int); omega) | (show _ < List.length _; simp only [List.length_set, List.length_append, List.length_take]; omega) | (show wantB _ _ = true; simp <;> omega) | (show (_ : Bool) = _; simp_all; done) | (exfalso; omega) | fail))
    refine acall_conv [.dat RasT] _ _ _ rfl trivial (acall_frame0 rfl (basins_one E a (by omega) _ ?_))
    obtain h | h | h | h : rerr a = 1 ∨ rerr a = 2 ∨ rerr a = 3 ∨ rerr a = 4 := by omega
    all_goals
      rw [h] at hK ⊢
      (repeat' (first | exact trivial | exact fun h => h | refine And.intro ?_ ?_ | (intro hb; try simp at hb) | omega | exact rfl | exact Nat.le_refl _ | (show _ + 1 ≤ 4294967296; omega) | (dsimp only; omega) | (show (_ : Int) ≤ (_ : Int); omega) | (show _ < List.length _; simp only [List.length_set, List.length_append, List.length_take]; omega) | (show wantB _ _ = true; simp <;> omega) | (show (_ : Bool) = _; simp_all; done) | (exfalso; omega) | fail))
      refine ⟨_, _, (REnt.conv [.dat (.list PaT), .keep] _ rfl trivial).trans (REnt.drop ⟨rfl, rfl⟩), ?_⟩
      exact hK
theorem joined_one (E : Errs) (a : Ras) (level : Int) (hl : a.2.2.length ≤ 80) (K : AV → List AO → Prop) (h0 : rerr a ≠ 0 → K (.tup [.fz (.list (.list int)) [], .fz .raw (er E (rerr a))]) [])
    (h1 : rerr a = 0 → ∀ L : List Pa, PL (hmI a) (hts a) (fun i k => i < a.1.toNat * a.2.1.toNat ∧ k ∈ arN a.1.toNat a.2.1.toNat i) L →
      K (.tup [.fz (.list (.list int)) (Bp.wants (Bp.labL level L) (homeN a.1.toNat a.2.1.toNat (flD a.1.toNat a.2.1.toNat (hts a)).to) (a.1.toNat * a.2.1.toNat) (a.1.toNat * a.2.1.toNat)), .fz .raw .nilIface]) []) :
    ACall Tryz.prog (G8 E) 21 [.fz RasT a, .fz int level] [] K := by
  by_cases hv : rerr a = 0
  · have R := RasN.mk' hv
    have F := flowN a.1.toNat a.2.1.toNat (hts a) R.w0
    have hok := Bp.home_ok F
    refine joined_ok E a level hv R (by rw [← R.len]; exact hl) (homeN a.1.toNat a.2.1.toNat (flD a.1.toNat a.2.1.toNat (hts a)).to) (by unfold basQ; rw [if_pos hv]) (fun i hi => (hok i hi).1) K (fun L first hL hs hm => ?_)
    have hK := h1 hv L hL
    rw [Bp.ufL_R, Bp.groups_eq hs hm hok]
    exact hK
  · have hK := h0 hv
    have h4 := rerr_in a
    refine acall_mk (E := envAt (G8 E) 128 0) (envOk _ _ _) Tryz.func21 rfl rfl rfl rfl rfl ?_
    (repeat' (first | exact trivial | exact fun h => h | refine And.intro ?_ ?_ | (intro hb; try simp at hb) | omega | exact rfl | exact Nat.le_refl _ | (show _ + 1 ≤ 4294967296; omega) | (dsimp only; omega) | (show (_ : Int) ≤ (_ : Int); omega) | (show _ < List.length _; simp only [List.length_set, List.length_append, List.length_take]; omega) | (show wantB _ _ = true; simp <;> omega) | (show (_ : Bool) = _; simp_all; done) | (exfalso; omega) | fail))
    refine acall_conv [.dat RasT] _ _ _ rfl trivial (acall_frame0 rfl (basins_one E a (by omega) _ ?_))
    obtain h | h | h | h : rerr a = 1 ∨ rerr a = 2 ∨ rerr a = 3 ∨ rerr a = 4 := by omega
    all_goals
      rw [h] at hK ⊢
      (repeat' (first | exact trivial | exact fun h => h | refine And.intro ?_ ?_ | (intro hb; try simp at hb) | omega | exact rfl | exact Nat.le_refl _ | (show _ + 1 ≤ 4294967296; omega) | (dsimp only; omega) | (show (_ : Int) ≤ (_ : Int); omega) | (show _ < List.length _; simp only [List.length_set, List.length_append, List.length_take]; omega) | (show wantB _ _ = true; simp <;> omega) | (show (_ : Bool) = _; simp_all; done) | (exfalso; omega) | fail))
      refine ⟨_, _, (REnt.conv [.dat (.list (.list int)), .keep] _ rfl trivial).trans (REnt.drop ⟨rfl, rfl⟩), ?_⟩
      exact hK
set_option maxHeartbeats 16000000 in
/-- the least pass of two basins -/
theorem passOf_any (G : List (Nat × Value)) (a : Ras) {w h : Nat} (R : RasN a w h) (b : Nat → Int) (x y : Int) (K : AV → List AO → Prop)
    (hK : ∀ best s, Bp.Sp b (hts a) x y (fun i k => i < w * h ∧ k < w * h ∧ touchN w i k) best s → K (.tup [.fz int best, .fz .bool s]) []) :
    ACall Tryz.prog G 26 [.fptr RasT a, .fz (.list int) (lst (w * h) b), .fz int x, .fz int y] [] K := by
  have hl := R.len
  have hwh := R.wh
  obtain ⟨n, hn⟩ : ∃ n, n = w * h := ⟨_, rfl⟩
  have hbl : (lst n b).length = n := lst_len n b
  rw [← hn] at hl hwh hK ⊢
  refine acall_mk (E := envAt G 87 0) (envOk _ _ _) Tryz.func26 rfl rfl rfl rfl rfl ?_
  (repeat' (first | exact trivial | exact fun h => h | refine And.intro ?_ ?_ | (intro hb; try simp at hb) | omega | exact rfl | exact Nat.le_refl _ | (show _ + 1 ≤ 4294967296; omega) | (dsimp only; omega) | (show (_ : Int) ≤ (_ : Int); omega) | (show _ < List.length _; simp only [List.length_set, List.length_append, List.length_take]; omega) | (show wantB _ _ = true; simp <;> omega) | (show (_ : Bool) = _; simp_all; done) | (exfalso; omega) | refine aRegion_auto (by decide +kernel) ?_ | fail))
  refine ⟨Nat × Int × Bool, fun z => ⟨[(0, .fptr RasT a), (1, .fz (.list int) (lst n b)), (2, .fz int x), (3, .fz int y), (10, .fz int z.2.1), (11, .fz .bool z.2.2), (12, .fz int z.1)], []⟩, fun z => z.1 ≤ n ∧ Bp.Sp b (hts a) x y (fun i k => i < z.1 ∧ k < n ∧ touchN w i k) z.2.1 z.2.2, fun z => n - z.1, (0, 0, false), ⟨Nat.zero_le _, Bp.Sp.start.congr fun i k => ⟨fun h => h.elim, fun h => by omega⟩⟩, Ent.sub rfl ?_, ?_⟩
  · (repeat' (first | exact trivial | exact rfl | refine And.intro ?_ ?_))
  rintro ⟨i, best, s⟩ ⟨hi, hS⟩
  have hi : i ≤ n := hi
  have hS : Bp.Sp b (hts a) x y (fun i' k => i' < i ∧ k < n ∧ touchN w i' k) best s := hS
  show awp _ _ _ ⟨[(0, .fptr RasT a), (1, .fz (.list int) (lst n b)), (2, .fz int x), (3, .fz int y), (10, .fz int best), (11, .fz .bool s), (12, .fz int i)], []⟩
  by_cases hin : i < n
  · have g1 : (lst n b).getD (Int.toNat (i : Int)) int.dft = b i := by rw [Int.toNat_natCast, List.getD]; exact lst_get _ hin
    have k1 : (lst n b)[i]?.getD int.dft = b i := lst_get _ hin
    by_cases hx : b i = x
    · (repeat' (first | exact trivial | exact fun h => h | refine And.intro ?_ ?_ | (intro hb; try simp at hb) | omega | exact rfl | exact Nat.le_refl _ | (show _ + 1 ≤ 4294967296; omega) | (dsimp only; omega) | (show (_ : Int) ≤ (_ : Int); omega) | (show _ < List.length _; simp only [List.length_set, List.length_append, List.length_take]; omega) | (show wantB _ _ = true; simp <;> omega) | (show (_ : Bool) = _; simp_all; done) | (exfalso; omega) | refine aRegion_auto (by decide +kernel) ?_ | fail))
      refine ⟨Nat × Int × Bool, fun z => ⟨[(0, .fptr RasT a), (1, .fz (.list int) (lst n b)), (2, .fz int x), (3, .fz int y), (10, .fz int z.2.1), (11, .fz .bool z.2.2), (12, .fz int i), (13, .fz int z.1)], []⟩, fun z => z.1 ≤ n ∧ Bp.Sp b (hts a) x y (fun i' k => (i' < i ∧ k < n ∧ touchN w i' k) ∨ (i' = i ∧ k < z.1 ∧ touchN w i' k)) z.2.1 z.2.2, fun z => n - z.1, (0, best, s), ⟨Nat.zero_le _, hS.congr fun i' k => ⟨fun h => .inl h, fun h => h.elim id fun h => by omega⟩⟩, Ent.sub rfl ?_, ?_⟩
      · (repeat' (first | exact trivial | exact rfl | refine And.intro ?_ ?_))
      rintro ⟨k, best, s⟩ ⟨hk, hS2⟩
      have hk : k ≤ n := hk
      have hS2 : Bp.Sp b (hts a) x y (fun i' k' => (i' < i ∧ k' < n ∧ touchN w i' k') ∨ (i' = i ∧ k' < k ∧ touchN w i' k')) best s := hS2
      show awp _ _ _ ⟨[(0, .fptr RasT a), (1, .fz (.list int) (lst n b)), (2, .fz int x), (3, .fz int y), (10, .fz int best), (11, .fz .bool s), (12, .fz int i), (13, .fz int k)], []⟩
      by_cases hkn : k < n
      · have g2 : (lst n b).getD (Int.toNat (k : Int)) int.dft = b k := by rw [Int.toNat_natCast, List.getD]; exact lst_get _ hkn
        have k2 : (lst n b)[k]?.getD int.dft = b k := lst_get _ hkn
        have g4 : a.2.2.getD (Int.toNat (i : Int)) int.dft = hts a i := by rw [Int.toNat_natCast]; rfl
        have g5 : a.2.2.getD (Int.toNat (k : Int)) int.dft = hts a k := by rw [Int.toNat_natCast]; rfl
        have k4 : a.2.2[i]?.getD int.dft = hts a i := rfl
        have k5 : a.2.2[k]?.getD int.dft = hts a k := rfl
        have hno : ∀ s' best', ¬ touchN w i k → Bp.Sp b (hts a) x y (fun i' k' => (i' < i ∧ k' < n ∧ touchN w i' k') ∨ (i' = i ∧ k' < k ∧ touchN w i' k')) best' s' → Bp.Sp b (hts a) x y (fun i' k' => (i' < i ∧ k' < n ∧ touchN w i' k') ∨ (i' = i ∧ k' < k + 1 ∧ touchN w i' k')) best' s' := fun s' best' ht h => h.congr fun i' k' => by
          constructor
          · rintro (h | ⟨h1, h2, h3⟩)
            · exact .inl h
            · exact .inr ⟨h1, by omega, h3⟩
          · rintro (h | ⟨h1, h2, h3⟩)
            · exact .inl h
            · refine .inr ⟨h1, ?_, h3⟩
              rcases Nat.lt_or_ge k' k with h4 | h4
              · exact h4
              · obtain rfl : k' = k := by omega
                exact absurd (h1 ▸ h3) ht
        have hyes : touchN w i k → ∀ i' k', (((i' < i ∧ k' < n ∧ touchN w i' k') ∨ (i' = i ∧ k' < k ∧ touchN w i' k')) ∨ (i' = i ∧ k' = k)) ↔ ((i' < i ∧ k' < n ∧ touchN w i' k') ∨ (i' = i ∧ k' < k + 1 ∧ touchN w i' k')) := fun ht i' k' => by
          constructor
          · rintro ((h | ⟨h1, h2, h3⟩) | ⟨h1, h2⟩)
            · exact .inl h
            · exact .inr ⟨h1, by omega, h3⟩
            · subst h1 h2; exact .inr ⟨rfl, by omega, ht⟩
          · rintro (h | ⟨h1, h2, h3⟩)
            · exact .inl (.inl h)
            · by_cases e : k' = k
              · exact .inr ⟨h1, e⟩
              · exact .inl (.inr ⟨h1, by omega, h3⟩)
        (repeat' (first | exact trivial | exact fun h => h | refine And.intro ?_ ?_ | (intro hb; try simp at hb) | omega | exact rfl | exact Nat.le_refl _ | (show _ + 1 ≤ 4294967296; omega) | (dsimp only; omega) | (show (_ : Int) ≤ (_ : Int); omega) | (show _ < List.length _; simp only [List.length_set, List.length_append, List.length_take]; omega) | (show wantB _ _ = true; simp <;> omega) | (show (_ : Bool) = _; simp_all; done) | (exfalso; omega) | refine aRegion_auto (by decide +kernel) ?_ | fail))
        refine acall_frame0 rfl (touch_any _ a R i k (by omega) (by omega) _ ?_)
        by_cases ht : touchN w i k
        · rw [decide_eq_true ht]
          by_cases hy : b k = y
          · have hadd := (hS2.add (i := i) (k := k) hx hy).congr (hyes ht)
            have hvi : hts a i = a.2.2[i]?.getD int.dft := rfl
            have hvk : hts a k = a.2.2[k]?.getD int.dft := rfl
            cases s with
            | false =>
              rw [if_pos (.inl rfl)] at hadd
              by_cases hgt : hts a i < hts a k
              · (repeat' (first | exact trivial | exact fun h => h | refine And.intro ?_ ?_ | (intro hb; try simp at hb) | omega | exact rfl | exact Nat.le_refl _ | (show _ + 1 ≤ 4294967296; omega) | (dsimp only; omega) | (show (_ : Int) ≤ (_ : Int); omega) | (show _ < List.length _; simp only [List.length_set, List.length_append, List.length_take]; omega) | (show wantB _ _ = true; simp <;> omega) | (show (_ : Bool) = _; simp_all; done) | (exfalso; omega) | refine aRegion_auto (by decide +kernel) ?_ | fail))
                refine ⟨(k + 1, max (hts a i) (hts a k), true), ⟨by show k + 1 ≤ n; omega, hadd⟩, by show n - (k + 1) < n - k; omega, Ent.sub rfl ?_⟩
                (repeat' (first | exact trivial | exact rfl | refine And.intro ?_ ?_))
                exact congrArg (AV.fz int) (show a.2.2.getD (Int.toNat (k : Int)) int.dft = max (hts a i) (hts a k) by omega)
              · (repeat' (first | exact trivial | exact fun h => h | refine And.intro ?_ ?_ | (intro hb; try simp at hb) | omega | exact rfl | exact Nat.le_refl _ | (show _ + 1 ≤ 4294967296; omega) | (dsimp only; omega) | (show (_ : Int) ≤ (_ : Int); omega) | (show _ < List.length _; simp only [List.length_set, List.length_append, List.length_take]; omega) | (show wantB _ _ = true; simp <;> omega) | (show (_ : Bool) = _; simp_all; done) | (exfalso; omega) | refine aRegion_auto (by decide +kernel) ?_ | fail))
                refine ⟨(k + 1, max (hts a i) (hts a k), true), ⟨by show k + 1 ≤ n; omega, hadd⟩, by show n - (k + 1) < n - k; omega, Ent.sub rfl ?_⟩
                (repeat' (first | exact trivial | exact rfl | refine And.intro ?_ ?_))
                exact congrArg (AV.fz int) (show a.2.2.getD (Int.toNat (i : Int)) int.dft = max (hts a i) (hts a k) by omega)
            | true =>
              by_cases hlt : max (hts a i) (hts a k) < best
              · rw [if_pos (.inr hlt)] at hadd
                by_cases hgt : hts a i < hts a k
                · (repeat' (first | exact trivial | exact fun h => h | refine And.intro ?_ ?_ | (intro hb; try simp at hb) | omega | exact rfl | exact Nat.le_refl _ | (show _ + 1 ≤ 4294967296; omega) | (dsimp only; omega) | (show (_ : Int) ≤ (_ : Int); omega) | (show _ < List.length _; simp only [List.length_set, List.length_append, List.length_take]; omega) | (show wantB _ _ = true; simp <;> omega) | (show (_ : Bool) = _; simp_all; done) | (exfalso; omega) | refine aRegion_auto (by decide +kernel) ?_ | fail))
                  refine ⟨(k + 1, max (hts a i) (hts a k), true), ⟨by show k + 1 ≤ n; omega, hadd⟩, by show n - (k + 1) < n - k; omega, Ent.sub rfl ?_⟩
                  (repeat' (first | exact trivial | exact rfl | refine And.intro ?_ ?_))
                  exact congrArg (AV.fz int) (show a.2.2.getD (Int.toNat (k : Int)) int.dft = max (hts a i) (hts a k) by omega)
                · (repeat' (first | exact trivial | exact fun h => h | refine And.intro ?_ ?_ | (intro hb; try simp at hb) | omega | exact rfl | exact Nat.le_refl _ | (show _ + 1 ≤ 4294967296; omega) | (dsimp only; omega) | (show (_ : Int) ≤ (_ : Int); omega) | (show _ < List.length _; simp only [List.length_set, List.length_append, List.length_take]; omega) | (show wantB _ _ = true; simp <;> omega) | (show (_ : Bool) = _; simp_all; done) | (exfalso; omega) | refine aRegion_auto (by decide +kernel) ?_ | fail))
                  refine ⟨(k + 1, max (hts a i) (hts a k), true), ⟨by show k + 1 ≤ n; omega, hadd⟩, by show n - (k + 1) < n - k; omega, Ent.sub rfl ?_⟩
                  (repeat' (first | exact trivial | exact rfl | refine And.intro ?_ ?_))
                  exact congrArg (AV.fz int) (show a.2.2.getD (Int.toNat (i : Int)) int.dft = max (hts a i) (hts a k) by omega)
              · rw [if_neg (fun h => h.elim (fun h => by cases h) hlt)] at hadd
                by_cases hgt : hts a i < hts a k
                · (repeat' (first | exact trivial | exact fun h => h | refine And.intro ?_ ?_ | (intro hb; try simp at hb) | omega | exact rfl | exact Nat.le_refl _ | (show _ + 1 ≤ 4294967296; omega) | (dsimp only; omega) | (show (_ : Int) ≤ (_ : Int); omega) | (show _ < List.length _; simp only [List.length_set, List.length_append, List.length_take]; omega) | (show wantB _ _ = true; simp <;> omega) | (show (_ : Bool) = _; simp_all; done) | (exfalso; omega) | refine aRegion_auto (by decide +kernel) ?_ | fail))
                  refine ⟨(k + 1, best, true), ⟨by show k + 1 ≤ n; omega, hadd⟩, by show n - (k + 1) < n - k; omega, Ent.sub rfl ?_⟩
                  (repeat' (first | exact trivial | exact rfl | refine And.intro ?_ ?_))
                · (repeat' (first | exact trivial | exact fun h => h | refine And.intro ?_ ?_ | (intro hb; try simp at hb) | omega | exact rfl | exact Nat.le_refl _ | (show _ + 1 ≤ 4294967296; omega) | (dsimp only; omega) | (show (_ : Int) ≤ (_ : Int); omega) | (show _ < List.length _; simp only [List.length_set, List.length_append, List.length_take]; omega) | (show wantB _ _ = true; simp <;> omega) | (show (_ : Bool) = _; simp_all; done) | (exfalso; omega) | refine aRegion_auto (by decide +kernel) ?_ | fail))
                  refine ⟨(k + 1, best, true), ⟨by show k + 1 ≤ n; omega, hadd⟩, by show n - (k + 1) < n - k; omega, Ent.sub rfl ?_⟩
                  (repeat' (first | exact trivial | exact rfl | refine And.intro ?_ ?_))
          · have hsk := (hS2.skip (i := i) (k := k) fun h => hy h.2).congr (hyes ht)
            (repeat' (first | exact trivial | exact fun h => h | refine And.intro ?_ ?_ | (intro hb; try simp at hb) | omega | exact rfl | exact Nat.le_refl _ | (show _ + 1 ≤ 4294967296; omega) | (dsimp only; omega) | (show (_ : Int) ≤ (_ : Int); omega) | (show _ < List.length _; simp only [List.length_set, List.length_append, List.length_take]; omega) | (show wantB _ _ = true; simp <;> omega) | (show (_ : Bool) = _; simp_all; done) | (exfalso; omega) | refine aRegion_auto (by decide +kernel) ?_ | fail))
            refine ⟨(k + 1, best, s), ⟨by show k + 1 ≤ n; omega, hsk⟩, by show n - (k + 1) < n - k; omega, Ent.sub rfl ?_⟩
            (repeat' (first | exact trivial | exact rfl | refine And.intro ?_ ?_))
        · rw [decide_eq_false ht]
          have hS3 := hno s best ht hS2
          (repeat' (first | exact trivial | exact fun h => h | refine And.intro ?_ ?_ | (intro hb; try simp at hb) | omega | exact rfl | exact Nat.le_refl _ | (show _ + 1 ≤ 4294967296; omega) | (dsimp only; omega) | (show (_ : Int) ≤ (_ : Int); omega) | (show _ < List.length _; simp only [List.length_set, List.length_append, List.length_take]; omega) | (show wantB _ _ = true; simp <;> omega) | (show (_ : Bool) = _; simp_all; done) | (exfalso; omega) | refine aRegion_auto (by decide +kernel) ?_ | fail))
          refine ⟨(k + 1, best, s), ⟨by show k + 1 ≤ n; omega, hS3⟩, by show n - (k + 1) < n - k; omega, Ent.sub rfl ?_⟩
          (repeat' (first | exact trivial | exact rfl | refine And.intro ?_ ?_))
      · obtain rfl : k = n := by omega
        (repeat' (first | exact trivial | exact fun h => h | refine And.intro ?_ ?_ | (intro hb; try simp at hb) | omega | exact rfl | exact Nat.le_refl _ | (show _ + 1 ≤ 4294967296; omega) | (dsimp only; omega) | (show (_ : Int) ≤ (_ : Int); omega) | (show _ < List.length _; simp only [List.length_set, List.length_append, List.length_take]; omega) | (show wantB _ _ = true; simp <;> omega) | (show (_ : Bool) = _; simp_all; done) | (exfalso; omega) | refine aRegion_auto (by decide +kernel) ?_ | fail))
        refine ⟨(i + 1, best, s), ⟨by show i + 1 ≤ k; omega, hS2.congr fun i' k' => ?_⟩, by show k - (i + 1) < k - i; omega, Ent.sub rfl ?_⟩
        · constructor
          · rintro (⟨h1, h2, h3⟩ | ⟨h1, h2, h3⟩)
            · exact ⟨Nat.lt_succ_of_lt h1, h2, h3⟩
            · subst h1; exact ⟨Nat.lt_succ_self _, h2, h3⟩
          · rintro ⟨h1, h2, h3⟩
            have h1 : i' < i + 1 := h1
            by_cases e : i' = i
            · exact .inr ⟨e, h2, h3⟩
            · exact .inl ⟨by omega, h2, h3⟩
        · (repeat' (first | exact trivial | exact rfl | refine And.intro ?_ ?_))
    · (repeat' (first | exact trivial | exact fun h => h | refine And.intro ?_ ?_ | (intro hb; try simp at hb) | omega | exact rfl | exact Nat.le_refl _ | (show _ + 1 ≤ 4294967296; omega) | (dsimp only; omega) | (show (_ : Int) ≤ (_ : Int); omega) | (show _ < List.length _; simp only [List.length_set, List.length_append, List.length_take]; omega) | (show wantB _ _ = true; simp <;> omega) | (show (_ : Bool) = _; simp_all; done) | (exfalso; omega) | refine aRegion_auto (by decide +kernel) ?_ | fail))
      refine ⟨(i + 1, best, s), ⟨by show i + 1 ≤ n; omega, ?_⟩, by show n - (i + 1) < n - i; omega, Ent.sub rfl ?_⟩
      · show Bp.Sp b (hts a) x y (fun i' k => i' < i + 1 ∧ k < n ∧ touchN w i' k) best s
        rcases hS with ⟨h1, ⟨i0, k0, q1, q2, q3, q4⟩, h3⟩ | ⟨h1, h2, h3⟩
        · refine .inl ⟨h1, ⟨i0, k0, ⟨Nat.lt_succ_of_lt q1.1, q1.2⟩, q2, q3, q4⟩, fun i' k' hq hx' hy' => ?_⟩
          by_cases e : i' = i
          · subst e; exact absurd hx' hx
          · exact h3 i' k' ⟨by omega, hq.2⟩ hx' hy'
        · refine .inr ⟨h1, h2, fun i' k' hq hxy => ?_⟩
          by_cases e : i' = i
          · subst e; exact hx hxy.1
          · exact h3 i' k' ⟨by omega, hq.2⟩ hxy
      · (repeat' (first | exact trivial | exact rfl | refine And.intro ?_ ?_))
  · obtain rfl : i = n := by omega
    (repeat' (first | exact trivial | exact fun h => h | refine And.intro ?_ ?_ | (intro hb; try simp at hb) | omega | exact rfl | exact Nat.le_refl _ | (show _ + 1 ≤ 4294967296; omega) | (dsimp only; omega) | (show (_ : Int) ≤ (_ : Int); omega) | (show _ < List.length _; simp only [List.length_set, List.length_append, List.length_take]; omega) | (show wantB _ _ = true; simp <;> omega) | (show (_ : Bool) = _; simp_all; done) | (exfalso; omega) | refine aRegion_auto (by decide +kernel) ?_ | fail))
    exact ⟨_, _, REnt.refl _ _ _, hK best s hS⟩
/-- all that bear the one label get the other one -/
theorem joinAll_any (G : List (Nat × Value)) (n : Nat) (hn : n ≤ 16384) (g : Nat → Nat) (x y : Nat) (hx : x < n) (hy : y < n) (K : AV → List AO → Prop)
    (hK : K (.tup []) [.row int (lst n fun i => (Bp.jn g x y i : Int))]) :
    ACall Tryz.prog G 27 [.ref 0 0 n, .fz int x, .fz int y] [.row int (lst n fun i => (g i : Int))] K := by
  have hl : (lst n fun i => (g i : Int)).length = n := lst_len _ _
  have gx : (lst n fun i => (g i : Int)).getD (0 + Int.toNat (x : Int)) int.dft = (g x : Int) := by rw [Nat.zero_add, Int.toNat_natCast, List.getD]; exact lst_get _ hx
  have gy : (lst n fun i => (g i : Int)).getD (0 + Int.toNat (y : Int)) int.dft = (g y : Int) := by rw [Nat.zero_add, Int.toNat_natCast, List.getD]; exact lst_get _ hy
  have kx : (lst n fun i => (g i : Int))[x]?.getD int.dft = (g x : Int) := lst_get _ hx
  have ky : (lst n fun i => (g i : Int))[y]?.getD int.dft = (g y : Int) := lst_get _ hy
  obtain ⟨p, hp⟩ : ∃ p, p = min (g x) (g y) := ⟨_, rfl⟩
  obtain ⟨q, hq⟩ : ∃ q, q = max (g x) (g y) := ⟨_, rfl⟩
  have hjn : ∀ t, Bp.jn g x y t = if g t = q then p else g t := fun t => by unfold Bp.jn; rw [hp, hq]
  by_cases hgt : g y < g x
  all_goals
    refine acall_mk (E := envAt G 38 1) (envOk _ _ _) Tryz.func27 rfl rfl rfl rfl rfl ?_
    (repeat' (first | exact trivial | exact fun h => h | refine And.intro ?_ ?_ | (intro hb; try simp at hb) | omega | exact rfl | exact Nat.le_refl _ | (show _ + 1 ≤ 4294967296; omega) | (dsimp only; omega) | (show (_ : Int) ≤ (_ : Int); omega) | (show _ < List.length _; simp only [List.length_set, List.length_append, List.length_take]; omega) | (show wantB _ _ = true; simp <;> omega) | (show (_ : Bool) = _; simp_all; done) | (exfalso; omega) | refine aRegion_auto (by decide +kernel) ?_ | fail))
    refine ⟨Nat, fun i => ⟨[(0, .ref 0 0 n), (6, .fz int (p : Int)), (7, .fz int (q : Int)), (8, .fz int i)], [.row int (lst n fun t => ((if t < i then Bp.jn g x y t else g t : Nat) : Int))]⟩, fun i => i ≤ n, fun i => n - i, 0, Nat.zero_le _, Ent.sub ?_ ?_, ?_⟩
    · simp
    · (repeat' (first | exact trivial | exact rfl | refine And.intro ?_ ?_))
      · exact congrArg (AV.fz int) (by first | exact gx.trans (by omega) | exact gy.trans (by omega))
      · exact congrArg (AV.fz int) (by first | exact gx.trans (by omega) | exact gy.trans (by omega))
    intro i hi
    have hli : (lst n fun t => ((if t < i then Bp.jn g x y t else g t : Nat) : Int)).length = n := lst_len _ _
    by_cases hin : i < n
    · have ge : (lst n fun t => ((if t < i then Bp.jn g x y t else g t : Nat) : Int)).getD (0 + Int.toNat (i : Int)) int.dft = (g i : Int) := by
        rw [Nat.zero_add, Int.toNat_natCast, List.getD]
        refine (lst_get _ hin).trans ?_
        rw [if_neg (Nat.lt_irrefl i)]
      have ki : (lst n fun t => ((if t < i then Bp.jn g x y t else g t : Nat) : Int))[i]?.getD int.dft = (g i : Int) := by
        refine (lst_get _ hin).trans ?_
        rw [if_neg (Nat.lt_irrefl i)]
      by_cases hgi : g i = q
      · (repeat' (first | exact trivial | exact fun h => h | refine And.intro ?_ ?_ | (intro hb; try simp at hb) | omega | exact rfl | exact Nat.le_refl _ | (show _ + 1 ≤ 4294967296; omega) | (dsimp only; omega) | (show (_ : Int) ≤ (_ : Int); omega) | (show _ < List.length _; simp only [List.length_set, List.length_append, List.length_take]; omega) | (show wantB _ _ = true; simp <;> omega) | (show (_ : Bool) = _; simp_all; done) | (exfalso; omega) | refine aRegion_auto (by decide +kernel) ?_ | fail))
        refine ⟨i + 1, by show i + 1 ≤ n; omega, by show n - (i + 1) < n - i; omega, Ent.sub ?_ ?_⟩
        · refine congrArg (fun z => [z]) (row_set1 (k := i) (p : Int) rfl fun t ht => ?_)
          by_cases e : t = i
          · subst e; rw [if_pos rfl, if_pos (Nat.lt_succ_self _), hjn, if_pos hgi]
          · rw [if_neg e]
            by_cases h : t < i
            · rw [if_pos h, if_pos (by omega)]
            · rw [if_neg h, if_neg (by omega)]
        · (repeat' (first | exact trivial | exact rfl | refine And.intro ?_ ?_))
      · (repeat' (first | exact trivial | exact fun h => h | refine And.intro ?_ ?_ | (intro hb; try simp at hb) | omega | exact rfl | exact Nat.le_refl _ | (show _ + 1 ≤ 4294967296; omega) | (dsimp only; omega) | (show (_ : Int) ≤ (_ : Int); omega) | (show _ < List.length _; simp only [List.length_set, List.length_append, List.length_take]; omega) | (show wantB _ _ = true; simp <;> omega) | (show (_ : Bool) = _; simp_all; done) | (exfalso; omega) | refine aRegion_auto (by decide +kernel) ?_ | fail))
        refine ⟨i + 1, by show i + 1 ≤ n; omega, by show n - (i + 1) < n - i; omega, Ent.sub ?_ ?_⟩
        · refine congrArg (fun z => [AO.row int z]) (lst_congr fun t ht => ?_)
          by_cases e : t = i
          · subst e; rw [if_neg (Nat.lt_irrefl _), if_pos (Nat.lt_succ_self _), hjn, if_neg hgi]
          · by_cases h : t < i
            · rw [if_pos h, if_pos (by omega)]
            · rw [if_neg h, if_neg (by omega)]
        · (repeat' (first | exact trivial | exact rfl | refine And.intro ?_ ?_))
    · obtain rfl : i = n := by omega
      (repeat' (first | exact trivial | exact fun h => h | refine And.intro ?_ ?_ | (intro hb; try simp at hb) | omega | exact rfl | exact Nat.le_refl _ | (show _ + 1 ≤ 4294967296; omega) | (dsimp only; omega) | (show (_ : Int) ≤ (_ : Int); omega) | (show _ < List.length _; simp only [List.length_set, List.length_append, List.length_take]; omega) | (show wantB _ _ = true; simp <;> omega) | (show (_ : Bool) = _; simp_all; done) | (exfalso; omega) | refine aRegion_auto (by decide +kernel) ?_ | fail))
      refine ⟨_, _, REnt.refl _ _ _, ?_⟩
      refine (congrArg (fun z => K (.tup []) [.row int z]) (lst_congr fun t ht => ?_)).mpr hK
      rw [if_pos ht]
end Go.Proofs.YtgjjooophigkoaaGreatDoor
/-
  BasinPasses: the walk.
-/
namespace Go.Proofs.YtgjjooophigkoaaGreatDoor
open Go Go.Ab Ps
set_option maxRecDepth 100000
set_option maxHeartbeats 16000000 in
theorem basinPasses_some {E : Errs} (hE : (EL E).Nodup) (a : Ras) (level : Int) (hla : a.2.2.length ≤ 9223372036854775807) (K : AV → List AO → Prop) (hK : K (.fz .bool true) []) :
    ACall Tryz.prog (G8 E) 5 [.fptr RasT a, .fz int level] [] K := by
  refine acall_mk (E := envAt (G8 E) 243 0) (envOk _ _ _) Tryz.func5 rfl rfl rfl rfl rfl ?_
  (repeat' (first | exact trivial | exact fun h => h | refine And.intro ?_ ?_ | (intro hb; try simp at hb) | omega | exact rfl | exact Nat.le_refl _ | (show _ + 1 ≤ 4294967296; omega) | (dsimp only; omega) | (show (_ : Int) ≤ (_ : Int); omega) | (show _ < List.length _; simp only [List.length_set, List.length_append, List.length_take]; omega) | (show wantB _ _ = true; simp <;> omega) | (show (_ : Bool) = _; simp_all; done) | (exfalso; omega) | refine aRegion_auto (by decide +kernel) ?_ | refine ⟨_, _, REnt.drop ⟨rfl, rfl⟩, ?_⟩ | fail))
  refine acall_frame0 rfl (based_any E _ ?_)
  (repeat' (first | exact trivial | exact fun h => h | refine And.intro ?_ ?_ | (intro hb; try simp at hb) | omega | exact rfl | exact Nat.le_refl _ | (show _ + 1 ≤ 4294967296; omega) | (dsimp only; omega) | (show (_ : Int) ≤ (_ : Int); omega) | (show _ < List.length _; simp only [List.length_set, List.length_append, List.length_take]; omega) | (show wantB _ _ = true; simp <;> omega) | (show (_ : Bool) = _; simp_all; done) | (exfalso; omega) | refine aRegion_auto (by decide +kernel) ?_ | refine ⟨_, _, REnt.drop ⟨rfl, rfl⟩, ?_⟩ | fail))
  refine acall_frame0 rfl (small80_any _ a _ ?_)
  (repeat' (first | exact trivial | exact fun h => h | refine And.intro ?_ ?_ | (intro hb; try simp at hb) | omega | exact rfl | exact Nat.le_refl _ | (show _ + 1 ≤ 4294967296; omega) | (dsimp only; omega) | (show (_ : Int) ≤ (_ : Int); omega) | (show _ < List.length _; simp only [List.length_set, List.length_append, List.length_take]; omega) | (show wantB _ _ = true; simp <;> omega) | (show (_ : Bool) = _; simp_all; done) | (exfalso; omega) | refine aRegion_auto (by decide +kernel) ?_ | refine ⟨_, _, REnt.drop ⟨rfl, rfl⟩, ?_⟩ | fail))
  · exact hK
  have hl : a.2.2.length ≤ 80 := by omega
  refine acall_frame0 rfl (passes_one E a hl _ (fun hv => ?_) (fun hv L hLl hL => ?_))
  · (repeat' (first | exact trivial | exact fun h => h | refine And.intro ?_ ?_ | (intro hb; try simp at hb) | omega | exact rfl | exact Nat.le_refl _ | (show _ + 1 ≤ 4294967296; omega) | (dsimp only; omega) | (show (_ : Int) ≤ (_ : Int); omega) | (show _ < List.length _; simp only [List.length_set, List.length_append, List.length_take]; omega) | (show wantB _ _ = true; simp <;> omega) | (show (_ : Bool) = _; simp_all; done) | (exfalso; omega) | refine aRegion_auto (by decide +kernel) ?_ | refine ⟨_, _, REnt.drop ⟨rfl, rfl⟩, ?_⟩ | fail))
    refine acall_frame0 rfl (joined_one E a level hl _ (fun _ => ?_) (fun hv0 => absurd hv0 hv))
    have h4 := rerr_in a
    (repeat' (first | exact trivial | exact fun h => h | refine And.intro ?_ ?_ | (intro hb; try simp at hb) | omega | exact rfl | exact Nat.le_refl _ | (show _ + 1 ≤ 4294967296; omega) | (dsimp only; omega) | (show (_ : Int) ≤ (_ : Int); omega) | (show _ < List.length _; simp only [List.length_set, List.length_append, List.length_take]; omega) | (show wantB _ _ = true; simp <;> omega) | (show (_ : Bool) = _; simp_all; done) | (exfalso; omega) | refine aRegion_auto (by decide +kernel) ?_ | refine ⟨_, _, REnt.drop ⟨rfl, rfl⟩, ?_⟩ | fail))
    refine acall_frame0 rfl (rasterError_any _ a (by omega) _ ?_)
    (repeat' (first | exact trivial | exact fun h => h | refine And.intro ?_ ?_ | (intro hb; try simp at hb) | omega | exact rfl | exact Nat.le_refl _ | (show _ + 1 ≤ 4294967296; omega) | (dsimp only; omega) | (show (_ : Int) ≤ (_ : Int); omega) | (show _ < List.length _; simp only [List.length_set, List.length_append, List.length_take]; omega) | (show wantB _ _ = true; simp <;> omega) | (show (_ : Bool) = _; simp_all; done) | (exfalso; omega) | refine aRegion_auto (by decide +kernel) ?_ | refine ⟨_, _, REnt.drop ⟨rfl, rfl⟩, ?_⟩ | fail))
    · refine acall_frame0 rfl (coded_mercatorlaw4 hE (by omega) (rerr a) _ ?_)
      rw [decide_eq_true rfl]
      (repeat' (first | exact trivial | exact fun h => h | refine And.intro ?_ ?_ | (intro hb; try simp at hb) | omega | exact rfl | exact Nat.le_refl _ | (show _ + 1 ≤ 4294967296; omega) | (dsimp only; omega) | (show (_ : Int) ≤ (_ : Int); omega) | (show _ < List.length _; simp only [List.length_set, List.length_append, List.length_take]; omega) | (show wantB _ _ = true; simp <;> omega) | (show (_ : Bool) = _; simp_all; done) | (exfalso; omega) | refine aRegion_auto (by decide +kernel) ?_ | refine ⟨_, _, REnt.drop ⟨rfl, rfl⟩, ?_⟩ | fail))
      refine acall_frame0 rfl (coded_mercatorlaw4 hE (by omega) (rerr a) _ ?_)
      rw [decide_eq_true rfl]
      (repeat' (first | exact trivial | exact fun h => h | refine And.intro ?_ ?_ | (intro hb; try simp at hb) | omega | exact rfl | exact Nat.le_refl _ | (show _ + 1 ≤ 4294967296; omega) | (dsimp only; omega) | (show (_ : Int) ≤ (_ : Int); omega) | (show _ < List.length _; simp only [List.length_set, List.length_append, List.length_take]; omega) | (show wantB _ _ = true; simp <;> omega) | (show (_ : Bool) = _; simp_all; done) | (exfalso; omega) | refine aRegion_auto (by decide +kernel) ?_ | refine ⟨_, _, REnt.drop ⟨rfl, rfl⟩, ?_⟩ | fail))
      exact hK
  (repeat' (first | exact trivial | exact fun h => h | refine And.intro ?_ ?_ | (intro hb; try simp at hb) | omega | exact rfl | exact Nat.le_refl _ | (show _ + 1 ≤ 4294967296; omega) | (dsimp only; omega) | (show (_ : Int) ≤ (_ : Int); omega) | (show _ < List.length _; simp only [List.length_set, List.length_append, List.length_take]; omega) | (show wantB _ _ = true; simp <;> omega) | (show (_ : Bool) = _; simp_all; done) | (exfalso; omega) | refine aRegion_auto (by decide +kernel) ?_ | refine ⟨_, _, REnt.drop ⟨rfl, rfl⟩, ?_⟩ | fail))
  refine acall_frame0 rfl (joined_one E a level hl _ (fun h => absurd hv h) (fun _ L2 hL2 => ?_))
  obtain rfl : L2 = L := hL2.uniq hL
  clear hL2
  (repeat' (first | exact trivial | exact fun h => h | refine And.intro ?_ ?_ | (intro hb; try simp at hb) | omega | exact rfl | exact Nat.le_refl _ | (show _ + 1 ≤ 4294967296; omega) | (dsimp only; omega) | (show (_ : Int) ≤ (_ : Int); omega) | (show _ < List.length _; simp only [List.length_set, List.length_append, List.length_take]; omega) | (show wantB _ _ = true; simp <;> omega) | (show (_ : Bool) = _; simp_all; done) | (exfalso; omega) | refine aRegion_auto (by decide +kernel) ?_ | refine ⟨_, _, REnt.drop ⟨rfl, rfl⟩, ?_⟩ | fail))
  refine acall_frame0 rfl (rasterError_any _ a (by omega) _ ?_)
  rw [hv]
  have R := RasN.mk' hv
  have F := flowN a.1.toNat a.2.1.toNat (hts a) R.w0
  have hln := R.len
  have hwh := R.wh
  have hok := Bp.home_ok F
  (repeat' (first | exact trivial | exact fun h => h | refine And.intro ?_ ?_ | (intro hb; try simp at hb) | omega | exact rfl | exact Nat.le_refl _ | (show _ + 1 ≤ 4294967296; omega) | (dsimp only; omega) | (show (_ : Int) ≤ (_ : Int); omega) | (show _ < List.length _; simp only [List.length_set, List.length_append, List.length_take]; omega) | (show wantB _ _ = true; simp <;> omega) | (show (_ : Bool) = _; simp_all; done) | (exfalso; omega) | refine aRegion_auto (by decide +kernel) ?_ | refine ⟨_, _, REnt.drop ⟨rfl, rfl⟩, ?_⟩ | fail))
  refine acall_frame0 rfl (floodOf_any _ a R _ ?_)
  (repeat' (first | exact trivial | exact fun h => h | refine And.intro ?_ ?_ | (intro hb; try simp at hb) | omega | exact rfl | exact Nat.le_refl _ | (show _ + 1 ≤ 4294967296; omega) | (dsimp only; omega) | (show (_ : Int) ≤ (_ : Int); omega) | (show _ < List.length _; simp only [List.length_set, List.length_append, List.length_take]; omega) | (show wantB _ _ = true; simp <;> omega) | (show (_ : Bool) = _; simp_all; done) | (exfalso; omega) | refine aRegion_auto (by decide +kernel) ?_ | refine ⟨_, _, REnt.drop ⟨rfl, rfl⟩, ?_⟩ | fail))
  refine acall_frame0 rfl (homes_any _ a (fRes a.1.toNat a.2.1.toNat a) F hwh hln rfl _ ?_)
  obtain ⟨hm, ehm⟩ : ∃ hm, homeN a.1.toNat a.2.1.toNat (flD a.1.toNat a.2.1.toNat (hts a)).to = hm := ⟨_, rfl⟩
  have hL : PL (fun i => (hm i : Int)) (hts a) (fun i k => i < a.1.toNat * a.2.1.toNat ∧ k ∈ arN a.1.toNat a.2.1.toNat i) L2 := by
    rw [← ehm]; exact hL
  rw [ehm] at hok ⊢
  obtain ⟨w, ew⟩ : ∃ w, a.1.toNat = w := ⟨_, rfl⟩
  obtain ⟨h, eh⟩ : ∃ h, a.2.1.toNat = h := ⟨_, rfl⟩
  rw [ew, eh] at R hln hwh hok hL ⊢
  clear F ehm
  obtain ⟨n, hn⟩ : ∃ n, n = w * h := ⟨_, rfl⟩
  rw [← hn] at hln hwh hok hL ⊢
  have hn80 : n ≤ 80 := by omega
  have hQ : ∀ i k, (i < n ∧ k ∈ arN w h i) ↔ (i < n ∧ k < n ∧ touchN w i k) := fun i k => by rw [(arN_mem w h i).2, hn]
  let b : Nat → Int := fun i => (hm i : Int)
  have hLm : ∀ p ∈ L2, ∃ x y : Nat, p.1 = x ∧ p.2.1 = y ∧ x < y ∧ y < n ∧ hm x = x ∧ hm y = y := fun p hp => by
    obtain ⟨x, y, v⟩ := p
    obtain ⟨hxy, ⟨i, k, q1, q2, q3, _⟩, _⟩ := (hL.mem x y v).1 hp
    obtain ⟨q1, q4, _⟩ := (hQ i k).1 q1
    subst q2 q3
    simp only at hxy
    exact ⟨hm i, hm k, rfl, rfl, by omega, (hok k q4).1, (hok i q1).2, (hok k q4).2⟩
  have hLr : ∀ p ∈ L2, p.1 < p.2.1 ∧ p.2.1 < (n : Int) := fun p hp => by
    obtain ⟨x, y, h1, h2, h3, h4, _⟩ := hLm p hp
    omega
  have hLs : ∀ p ∈ L2, 0 ≤ p.1 ∧ p.1 < p.2.1 := fun p hp => by
    obtain ⟨x, y, h1, h2, h3, h4, _⟩ := hLm p hp
    omega
  have hB : (lst n fun i => ((hm i : Nat) : Int)).length = n := lst_len _ _
  have hbv : ∀ i, i < n → (lst n fun i => ((hm i : Nat) : Int))[i]?.getD int.dft = (hm i : Int) := fun i hi => lst_get _ hi
  have hbw : ∀ i : Nat, i < n → (lst n fun i => ((hm i : Nat) : Int)).getD (Int.toNat (i : Int)) int.dft = (hm i : Int) := fun i hi => by rw [Int.toNat_natCast, List.getD]; exact lst_get _ hi
  obtain ⟨J, hJ⟩ : ∃ J, Bp.wants (Bp.labL level L2) hm n n = J := ⟨_, rfl⟩
  have hJl := Bp.wants_len (Bp.labL level L2) hm n n
  rw [hJ] at hJl ⊢
  (repeat' (first | exact trivial | exact fun h => h | refine And.intro ?_ ?_ | (intro hb; try simp at hb) | omega | exact rfl | exact Nat.le_refl _ | (show _ + 1 ≤ 4294967296; omega) | (dsimp only; omega) | (show (_ : Int) ≤ (_ : Int); omega) | (show _ < List.length _; simp only [List.length_set, List.length_append, List.length_take]; omega) | (show wantB _ _ = true; simp <;> omega) | (show (_ : Bool) = _; simp_all; done) | (exfalso; omega) | refine aRegion_auto (by decide +kernel) ?_ | refine ⟨_, _, REnt.drop ⟨rfl, rfl⟩, ?_⟩ | fail))
  refine ⟨Nat, fun i => ⟨[(0, .fptr RasT a), (1, .fz int level), (7, .fz (.list PaT) L2), (8, .fz .raw .nilIface), (9, .fz (.list (.list int)) J), (10, .fz .raw .nilIface), (12, .fz (.list int) (lst n fun i => ((hm i : Nat) : Int))), (13, .ref 0 0 n), (14, .fz int i)], [.row int (lst n fun t => if t < i then (t : Int) else 0)]⟩, fun i => i ≤ n, fun i => n - i, 0, Nat.zero_le _, Ent.sub ?_ ?_, ?_⟩
  · rw [hB, Int.toNat_natCast]
    exact congrArg (fun z => [AO.row int z]) (lst_zero n)
  · (repeat' (first | exact trivial | exact rfl | refine And.intro ?_ ?_))
    exact congrArg (AV.ref 0 0) (by rw [hB]; rfl)
  intro i hi
  show awp _ _ _ ⟨[(0, .fptr RasT a), (1, .fz int level), (7, .fz (.list PaT) L2), (8, .fz .raw .nilIface), (9, .fz (.list (.list int)) J), (10, .fz .raw .nilIface), (12, .fz (.list int) (lst n fun i => ((hm i : Nat) : Int))), (13, .ref 0 0 n), (14, .fz int i)], [.row int (lst n fun t => if t < i then (t : Int) else 0)]⟩
  have hli : (lst n fun t => if t < i then (t : Int) else 0).length = n := lst_len _ _
  by_cases hin : i < n
  · (repeat' (first | exact trivial | exact fun h => h | refine And.intro ?_ ?_ | (intro hb; try simp at hb) | omega | exact rfl | exact Nat.le_refl _ | (show _ + 1 ≤ 4294967296; omega) | (dsimp only; omega) | (show (_ : Int) ≤ (_ : Int); omega) | (show _ < List.length _; simp only [List.length_set, List.length_append, List.length_take]; omega) | (show wantB _ _ = true; simp <;> omega) | (show (_ : Bool) = _; simp_all; done) | (exfalso; omega) | refine aRegion_auto (by decide +kernel) ?_ | refine ⟨_, _, REnt.drop ⟨rfl, rfl⟩, ?_⟩ | fail))
    refine ⟨i + 1, by show i + 1 ≤ n; omega, by show n - (i + 1) < n - i; omega, Ent.sub ?_ ?_⟩
    · refine congrArg (fun z => [z]) (row_set1 (k := i) (i : Int) rfl fun t ht => ?_)
      by_cases e : t = i
      · subst e; rw [if_pos rfl, if_pos (Nat.lt_succ_self _)]
      · rw [if_neg e]
        by_cases h : t < i
        · rw [if_pos h, if_pos (by omega)]
        · rw [if_neg h, if_neg (by omega)]
    · (repeat' (first | exact trivial | exact rfl | refine And.intro ?_ ?_))
  have hin : i = n := by omega
  have hrow : (lst n fun t => if t < i then (t : Int) else 0) = lst n fun t => (Bp.labL level (L2.take 0) t : Int) := lst_congr fun t ht => by rw [if_pos (by omega)]; rfl
  rw [hrow]
  clear hrow hli
  (repeat' (first | exact trivial | exact fun h => h | refine And.intro ?_ ?_ | (intro hb; try simp at hb) | omega | exact rfl | exact Nat.le_refl _ | (show _ + 1 ≤ 4294967296; omega) | (dsimp only; omega) | (show (_ : Int) ≤ (_ : Int); omega) | (show _ < List.length _; simp only [List.length_set, List.length_append, List.length_take]; omega) | (show wantB _ _ = true; simp <;> omega) | (show (_ : Bool) = _; simp_all; done) | (exfalso; omega) | refine aRegion_auto (by decide +kernel) ?_ | refine ⟨_, _, REnt.drop ⟨rfl, rfl⟩, ?_⟩ | fail))
  refine ⟨Nat × Nat, fun z => ⟨[(0, .fptr RasT a), (1, .fz int level), (7, .fz (.list PaT) L2), (8, .fz .raw .nilIface), (9, .fz (.list (.list int)) J), (10, .fz .raw .nilIface), (12, .fz (.list int) (lst n fun i => ((hm i : Nat) : Int))), (13, .ref 0 0 n), (15, .fz int z.2), (16, .fz int z.1)], [.row int (lst n fun t => (Bp.labL level (L2.take z.2) t : Int))]⟩, fun z => z.1 ≤ n ∧ Bp.Bef L2 (z.1 : Int) ((z.1 : Int) + 1) z.2, fun z => n - z.1, (0, 0), ⟨Nat.zero_le _, Bp.Bef.start hLs⟩, Ent.sub ?_ ?_, ?_⟩
  · rfl
  · (repeat' (first | exact trivial | exact rfl | refine And.intro ?_ ?_))
  rintro ⟨x, k⟩ ⟨hx, hBf⟩
  have hx : x ≤ n := hx
  have hBf : Bp.Bef L2 (x : Int) ((x : Int) + 1) k := hBf
  show awp _ _ _ ⟨[(0, .fptr RasT a), (1, .fz int level), (7, .fz (.list PaT) L2), (8, .fz .raw .nilIface), (9, .fz (.list (.list int)) J), (10, .fz .raw .nilIface), (12, .fz (.list int) (lst n fun i => ((hm i : Nat) : Int))), (13, .ref 0 0 n), (15, .fz int k), (16, .fz int x)], [.row int (lst n fun t => (Bp.labL level (L2.take k) t : Int))]⟩
  by_cases hxn : x < n
  · have bx := hbv x hxn
    have bx2 := hbw x hxn
    (repeat' (first | exact trivial | exact fun h => h | refine And.intro ?_ ?_ | (intro hb; try simp at hb) | omega | exact rfl | exact Nat.le_refl _ | (show _ + 1 ≤ 4294967296; omega) | (dsimp only; omega) | (show (_ : Int) ≤ (_ : Int); omega) | (show _ < List.length _; simp only [List.length_set, List.length_append, List.length_take]; omega) | (show wantB _ _ = true; simp <;> omega) | (show (_ : Bool) = _; simp_all; done) | (exfalso; omega) | refine aRegion_auto (by decide +kernel) ?_ | refine ⟨_, _, REnt.drop ⟨rfl, rfl⟩, ?_⟩ | fail))
    refine ⟨Nat × Nat, fun z => ⟨[(0, .fptr RasT a), (1, .fz int level), (7, .fz (.list PaT) L2), (8, .fz .raw .nilIface), (9, .fz (.list (.list int)) J), (10, .fz .raw .nilIface), (12, .fz (.list int) (lst n fun i => ((hm i : Nat) : Int))), (13, .ref 0 0 n), (15, .fz int z.2), (16, .fz int x), (17, .fz int z.1)], [.row int (lst n fun t => (Bp.labL level (L2.take z.2) t : Int))]⟩, fun z => z.1 ≤ n ∧ x + 1 ≤ z.1 ∧ Bp.Bef L2 (x : Int) (z.1 : Int) z.2, fun z => n - z.1, (x + 1, k), ⟨by show x + 1 ≤ n; omega, Nat.le_refl _, by show Bp.Bef L2 (x : Int) ((x + 1 : Nat) : Int) k; rw [Int.natCast_add]; exact hBf⟩, Ent.sub ?_ ?_, ?_⟩
    · rfl
    · (repeat' (first | exact trivial | exact rfl | refine And.intro ?_ ?_))
    rintro ⟨y, k⟩ ⟨hy, hxy, hBf⟩
    have hy : y ≤ n := hy
    have hxy : x + 1 ≤ y := hxy
    have hBf : Bp.Bef L2 (x : Int) (y : Int) k := hBf
    obtain ⟨g, hg⟩ : ∃ g, Bp.labL level (L2.take k) = g := ⟨_, rfl⟩
    show awp _ _ _ ⟨[(0, .fptr RasT a), (1, .fz int level), (7, .fz (.list PaT) L2), (8, .fz .raw .nilIface), (9, .fz (.list (.list int)) J), (10, .fz .raw .nilIface), (12, .fz (.list int) (lst n fun i => ((hm i : Nat) : Int))), (13, .ref 0 0 n), (15, .fz int k), (16, .fz int x), (17, .fz int y)], [.row int (lst n fun t => (Bp.labL level (L2.take k) t : Int))]⟩
    rw [hg]
    have hgl : (lst n fun t => (g t : Int)).length = n := lst_len _ _
    have hkl := hBf.le
    by_cases hyn : y < n
    · have by1 := hbv y hyn
      have by2 := hbw y hyn
      have hnext : ∀ v, ((y : Int) + v) = (((y : Nat) : Int) + v) := fun _ => rfl
      by_cases hboth : hm x = x ∧ hm y = y
      · obtain ⟨hxx, hyy⟩ := hboth
        rw [hxx] at bx bx2
        rw [hyy] at by1 by2
        (repeat' (first | exact trivial | exact fun h => h | refine And.intro ?_ ?_ | (intro hb; try simp at hb) | omega | exact rfl | exact Nat.le_refl _ | (show _ + 1 ≤ 4294967296; omega) | (dsimp only; omega) | (show (_ : Int) ≤ (_ : Int); omega) | (show _ < List.length _; simp only [List.length_set, List.length_append, List.length_take]; omega) | (show wantB _ _ = true; simp <;> omega) | (show (_ : Bool) = _; simp_all; done) | (exfalso; omega) | refine aRegion_auto (by decide +kernel) ?_ | refine ⟨_, _, REnt.drop ⟨rfl, rfl⟩, ?_⟩ | fail))
        refine acall_frame0 rfl (acall_arg (passOf_any _ a R b (x : Int) (y : Int) _ (fun best s hS => ?_)) ?_)
        · have eQ : (fun i k => i < w * h ∧ k < w * h ∧ touchN w i k) = (fun i k => i < n ∧ k ∈ arN w h i) := by
            funext i k
            rw [← hn]
            exact propext (hQ i k).symm
          rw [eQ] at hS
          rcases hS with ⟨rfl, hlow⟩ | ⟨rfl, _, hno⟩
          · obtain ⟨hk2, hLk, hB2⟩ := hBf.hit hL ((hL.mem _ _ _).2 ⟨by omega, hlow⟩)
            have hB2 : Bp.Bef L2 (x : Int) ((y + 1 : Nat) : Int) (k + 1) := by rw [Int.natCast_add]; exact hB2
            have c0 : L2[k]?.getD PaT.dft = ((x : Int), (y : Int), best) := by rw [List.getElem?_eq_getElem hk2, hLk]; rfl
            have c1 : (L2[k]?.getD PaT.dft).1 = (x : Int) := by rw [c0]
            have c2 : (L2[k]?.getD PaT.dft).2.1 = (y : Int) := by rw [c0]
            have c3 : (L2[k]?.getD PaT.dft).2.2 = best := by rw [c0]
            have d1 : (L2.getD (Int.toNat (k : Int)) PaT.dft).1 = (x : Int) := by rw [Int.toNat_natCast, List.getD]; exact c1
            have d2 : (L2.getD (Int.toNat (k : Int)) PaT.dft).2.1 = (y : Int) := by rw [Int.toNat_natCast, List.getD]; exact c2
            have d3 : (L2.getD (Int.toNat (k : Int)) PaT.dft).2.2 = best := by rw [Int.toNat_natCast, List.getD]; exact c3
            have hlab := Bp.labL_next level L2 hk2
            rw [hLk, hg] at hlab
            by_cases hle : best ≤ level
            · have hlab2 : Bp.labL level (L2.take (k + 1)) = Bp.jn g x y := by rw [hlab]; unfold Bp.lab1; rw [if_pos hle]; rfl
              (repeat' (first | exact trivial | exact fun h => h | refine And.intro ?_ ?_ | (intro hb; try simp at hb) | omega | exact rfl | exact Nat.le_refl _ | (show _ + 1 ≤ 4294967296; omega) | (dsimp only; omega) | (show (_ : Int) ≤ (_ : Int); omega) | (show _ < List.length _; simp only [List.length_set, List.length_append, List.length_take]; omega) | (show wantB _ _ = true; simp <;> omega) | (show (_ : Bool) = _; simp_all; done) | (exfalso; omega) | refine aRegion_auto (by decide +kernel) ?_ | refine ⟨_, _, REnt.drop ⟨rfl, rfl⟩, ?_⟩ | fail))
              refine acall_frame [0] [.row int (lst n fun t => (g t : Int))] [.ref 0 0 n, .fz int (x : Int), .fz int (y : Int)] rfl ⟨⟨rfl, trivial⟩, trivial⟩ ⟨rfl, rfl⟩ rfl (joinAll_any _ n (by omega) g x y (by omega) hyn _ ?_)
              (repeat' (first | exact trivial | exact fun h => h | refine And.intro ?_ ?_ | (intro hb; try simp at hb) | omega | exact rfl | exact Nat.le_refl _ | (show _ + 1 ≤ 4294967296; omega) | (dsimp only; omega) | (show (_ : Int) ≤ (_ : Int); omega) | (show _ < List.length _; simp only [List.length_set, List.length_append, List.length_take]; omega) | (show wantB _ _ = true; simp <;> omega) | (show (_ : Bool) = _; simp_all; done) | (exfalso; omega) | refine aRegion_auto (by decide +kernel) ?_ | refine ⟨_, _, REnt.drop ⟨rfl, rfl⟩, ?_⟩ | fail))
              refine ⟨(y + 1, k + 1), ⟨by show y + 1 ≤ n; omega, by show x + 1 ≤ y + 1; omega, hB2⟩, by show n - (y + 1) < n - y; omega, Ent.sub ?_ ?_⟩
              · rw [hlab2]
              · (repeat' (first | exact trivial | exact rfl | refine And.intro ?_ ?_))
            · have hlab2 : Bp.labL level (L2.take (k + 1)) = g := by rw [hlab]; unfold Bp.lab1; rw [if_neg hle]
              (repeat' (first | exact trivial | exact fun h => h | refine And.intro ?_ ?_ | (intro hb; try simp at hb) | omega | exact rfl | exact Nat.le_refl _ | (show _ + 1 ≤ 4294967296; omega) | (dsimp only; omega) | (show (_ : Int) ≤ (_ : Int); omega) | (show _ < List.length _; simp only [List.length_set, List.length_append, List.length_take]; omega) | (show wantB _ _ = true; simp <;> omega) | (show (_ : Bool) = _; simp_all; done) | (exfalso; omega) | refine aRegion_auto (by decide +kernel) ?_ | refine ⟨_, _, REnt.drop ⟨rfl, rfl⟩, ?_⟩ | fail))
              refine ⟨(y + 1, k + 1), ⟨by show y + 1 ≤ n; omega, by show x + 1 ≤ y + 1; omega, hB2⟩, by show n - (y + 1) < n - y; omega, Ent.sub ?_ ?_⟩
              · rw [hlab2]
              · (repeat' (first | exact trivial | exact rfl | refine And.intro ?_ ?_))
          · have hmiss : Bp.Bef L2 (x : Int) ((y + 1 : Nat) : Int) k := by
              rw [Int.natCast_add]
              refine hBf.miss fun v hv => ?_
              obtain ⟨_, ⟨i, z, q1, q2, q3, _⟩, _⟩ := (hL.mem _ _ _).1 hv
              exact hno i z q1 ⟨q2, q3⟩
            (repeat' (first | exact trivial | exact fun h => h | refine And.intro ?_ ?_ | (intro hb; try simp at hb) | omega | exact rfl | exact Nat.le_refl _ | (show _ + 1 ≤ 4294967296; omega) | (dsimp only; omega) | (show (_ : Int) ≤ (_ : Int); omega) | (show _ < List.length _; simp only [List.length_set, List.length_append, List.length_take]; omega) | (show wantB _ _ = true; simp <;> omega) | (show (_ : Bool) = _; simp_all; done) | (exfalso; omega) | refine aRegion_auto (by decide +kernel) ?_ | refine ⟨_, _, REnt.drop ⟨rfl, rfl⟩, ?_⟩ | fail))
            refine ⟨(y + 1, k), ⟨by show y + 1 ≤ n; omega, by show x + 1 ≤ y + 1; omega, hmiss⟩, by show n - (y + 1) < n - y; omega, Ent.sub ?_ ?_⟩
            · rw [← hg]
            · (repeat' (first | exact trivial | exact rfl | refine And.intro ?_ ?_))
        · rw [← hn]; rfl
      · have hmiss : Bp.Bef L2 (x : Int) ((y + 1 : Nat) : Int) k := by
          rw [Int.natCast_add]
          refine hBf.miss fun v hv => hboth ?_
          obtain ⟨x', y', h1, h2, _, _, h3, h4⟩ := hLm _ hv
          simp only at h1 h2
          have e1 : x' = x := by omega
          have e2 : y' = y := by omega
          subst e1 e2
          exact ⟨h3, h4⟩
        by_cases hxx : hm x = x
        · have hyy : hm y ≠ y := fun h => hboth ⟨hxx, h⟩
          (repeat' (first | exact trivial | exact fun h => h | refine And.intro ?_ ?_ | (intro hb; try simp at hb) | omega | exact rfl | exact Nat.le_refl _ | (show _ + 1 ≤ 4294967296; omega) | (dsimp only; omega) | (show (_ : Int) ≤ (_ : Int); omega) | (show _ < List.length _; simp only [List.length_set, List.length_append, List.length_take]; omega) | (show wantB _ _ = true; simp <;> omega) | (show (_ : Bool) = _; simp_all; done) | (exfalso; omega) | refine aRegion_auto (by decide +kernel) ?_ | refine ⟨_, _, REnt.drop ⟨rfl, rfl⟩, ?_⟩ | fail))
          refine ⟨(y + 1, k), ⟨by show y + 1 ≤ n; omega, by show x + 1 ≤ y + 1; omega, hmiss⟩, by show n - (y + 1) < n - y; omega, Ent.sub ?_ ?_⟩
          · rw [← hg]
          · (repeat' (first | exact trivial | exact rfl | refine And.intro ?_ ?_))
        · (repeat' (first | exact trivial | exact fun h => h | refine And.intro ?_ ?_ | (intro hb; try simp at hb) | omega | exact rfl | exact Nat.le_refl _ | (show _ + 1 ≤ 4294967296; omega) | (dsimp only; omega) | (show (_ : Int) ≤ (_ : Int); omega) | (show _ < List.length _; simp only [List.length_set, List.length_append, List.length_take]; omega) | (show wantB _ _ = true; simp <;> omega) | (show (_ : Bool) = _; simp_all; done) | (exfalso; omega) | refine aRegion_auto (by decide +kernel) ?_ | refine ⟨_, _, REnt.drop ⟨rfl, rfl⟩, ?_⟩ | fail))
          refine ⟨(y + 1, k), ⟨by show y + 1 ≤ n; omega, by show x + 1 ≤ y + 1; omega, hmiss⟩, by show n - (y + 1) < n - y; omega, Ent.sub ?_ ?_⟩
          · rw [← hg]
          · (repeat' (first | exact trivial | exact rfl | refine And.intro ?_ ?_))
    · obtain rfl : y = n := by omega
      have hrw : Bp.Bef L2 ((x + 1 : Nat) : Int) (((x + 1 : Nat) : Int) + 1) k := by
        have := hBf.row (by omega) hLr
        rw [Int.natCast_add]
        exact this
      (repeat' (first | exact trivial | exact fun h => h | refine And.intro ?_ ?_ | (intro hb; try simp at hb) | omega | exact rfl | exact Nat.le_refl _ | (show _ + 1 ≤ 4294967296; omega) | (dsimp only; omega) | (show (_ : Int) ≤ (_ : Int); omega) | (show _ < List.length _; simp only [List.length_set, List.length_append, List.length_take]; omega) | (show wantB _ _ = true; simp <;> omega) | (show (_ : Bool) = _; simp_all; done) | (exfalso; omega) | refine aRegion_auto (by decide +kernel) ?_ | refine ⟨_, _, REnt.drop ⟨rfl, rfl⟩, ?_⟩ | fail))
      refine ⟨(x + 1, k), ⟨by show x + 1 ≤ y; omega, hrw⟩, by show y - (x + 1) < y - x; omega, Ent.sub ?_ ?_⟩
      · rw [← hg]
      · (repeat' (first | exact trivial | exact rfl | refine And.intro ?_ ?_))
  obtain rfl : n = x := by omega
  have hkk := hBf.done hLr
  subst hkk
  rw [List.take_length]
  obtain ⟨g, hg⟩ : ∃ g, Bp.labL level L2 = g := ⟨_, rfl⟩
  have hgle : ∀ y, g y ≤ y := fun y => by rw [← hg]; exact Bp.labL_le level L2 y
  rw [hg] at hJ ⊢
  have hgl : (lst n fun t => (g t : Int)).length = n := lst_len _ _
  have hgv : ∀ i, i < n → (lst n fun t => (g t : Int))[i]?.getD int.dft = (g i : Int) := fun i hi => lst_get _ hi
  have hgw : ∀ i : Nat, i < n → (lst n fun t => (g t : Int)).getD (0 + Int.toNat (i : Int)) int.dft = (g i : Int) := fun i hi => by rw [Nat.zero_add, Int.toNat_natCast, List.getD]; exact lst_get _ hi
  (repeat' (first | exact trivial | exact fun h => h | refine And.intro ?_ ?_ | (intro hb; try simp at hb) | omega | exact rfl | exact Nat.le_refl _ | (show _ + 1 ≤ 4294967296; omega) | (dsimp only; omega) | (show (_ : Int) ≤ (_ : Int); omega) | (show _ < List.length _; simp only [List.length_set, List.length_append, List.length_take]; omega) | (show wantB _ _ = true; simp <;> omega) | (show (_ : Bool) = _; simp_all; done) | (exfalso; omega) | refine aRegion_auto (by decide +kernel) ?_ | refine ⟨_, _, REnt.drop ⟨rfl, rfl⟩, ?_⟩ | fail))
  refine ⟨Nat, fun x => ⟨[(0, .fptr RasT a), (1, .fz int level), (7, .fz (.list PaT) L2), (8, .fz .raw .nilIface), (9, .fz (.list (.list int)) J), (10, .fz .raw .nilIface), (12, .fz (.list int) (lst n fun i => ((hm i : Nat) : Int))), (13, .ref 0 0 n), (15, .fz int (Bp.wants g hm n x).length), (20, .fz int x)], [.row int (lst n fun t => (g t : Int))]⟩, fun x => x ≤ n, fun x => n - x, 0, Nat.zero_le _, Ent.sub ?_ ?_, ?_⟩
  · rfl
  · (repeat' (first | exact trivial | exact rfl | refine And.intro ?_ ?_))
  intro x hx
  have hwl := Bp.wants_len g hm n x
  have hnx := Bp.wants_next g hm n x
  by_cases hxn : x < n
  · have bx := hbv x hxn
    have bx2 := hbw x hxn
    have gx := hgv x hxn
    have gx2 := hgw x hxn
    by_cases hxx : hm x = x
    · by_cases hgx : g x = x
      · have hiG : Bp.isG g hm x = true := by unfold Bp.isG; simp [hxx, hgx]
        rw [if_pos hiG] at hnx
        obtain ⟨Tl, hTl⟩ := Bp.wants_pre g hm n (show x + 1 ≤ n by omega)
        have hJx : J = Bp.wants g hm n x ++ (natL (Bp.want g hm x n) :: Tl) := by rw [← hJ, hTl, hnx]; simp
        have hkJ : (Bp.wants g hm n x).length < J.length := by rw [hJx]; simp
        have hJk : J[(Bp.wants g hm n x).length]?.getD (Ty.list int).dft = natL (Bp.want g hm x n) := by rw [hJx]; exact get_after _ _ _ _
        have hJk2 : J.getD (Int.toNat ((Bp.wants g hm n x).length : Int)) (Ty.list int).dft = natL (Bp.want g hm x n) := by rw [Int.toNat_natCast, List.getD]; exact hJk
        (repeat' (first | exact trivial | exact fun h => h | refine And.intro ?_ ?_ | (intro hb; try simp at hb) | omega | exact rfl | exact Nat.le_refl _ | (show _ + 1 ≤ 4294967296; omega) | (dsimp only; omega) | (show (_ : Int) ≤ (_ : Int); omega) | (show _ < List.length _; simp only [List.length_set, List.length_append, List.length_take]; omega) | (show wantB _ _ = true; simp <;> omega) | (show (_ : Bool) = _; simp_all; done) | (exfalso; omega) | refine aRegion_auto (by decide +kernel) ?_ | refine ⟨_, _, REnt.drop ⟨rfl, rfl⟩, ?_⟩ | fail))
        refine ⟨Nat, fun y => ⟨[(0, .fptr RasT a), (1, .fz int level), (7, .fz (.list PaT) L2), (8, .fz .raw .nilIface), (9, .fz (.list (.list int)) J), (10, .fz .raw .nilIface), (12, .fz (.list int) (lst n fun i => ((hm i : Nat) : Int))), (13, .ref 0 0 n), (15, .fz int (Bp.wants g hm n x).length), (20, .fz int x), (21, .ref 1 0 (Bp.want g hm x y).length), (22, .fz int y)], [.row int (lst n fun t => (g t : Int)), .row int (natL (Bp.want g hm x y))]⟩, fun y => x ≤ y ∧ y ≤ n, fun y => n - y, x, ⟨Nat.le_refl _, by omega⟩, (Ent.nil 21 int rfl).trans (Ent.sub ?_ ?_), ?_⟩
        · rw [Bp.want_low hgle x x (Nat.le_refl _)]; rfl
        · (repeat' (first | exact trivial | exact rfl | refine And.intro ?_ ?_))
          exact congrArg (fun z : List Nat => AV.ref 1 0 z.length) (Bp.want_low hgle x x (Nat.le_refl _)).symm
        rintro y ⟨hxy, hy⟩
        have hwl2 := Bp.want_len g hm x y
        have hwn := natL_len (Bp.want g hm x y)
        have hny := Bp.want_next g hm x y
        by_cases hyn : y < n
        · have by1 := hbv y hyn
          have by2 := hbw y hyn
          have gy := hgv y hyn
          have gy2 := hgw y hyn
          by_cases hyy : hm y = y
          · by_cases hgy : g y = x
            · have hiG2 : Bp.inG g hm x y = true := by unfold Bp.inG; simp [hyy, hgy]
              rw [if_pos hiG2] at hny
              (repeat' (first | exact trivial | exact fun h => h | refine And.intro ?_ ?_ | (intro hb; try simp at hb) | omega | exact rfl | exact Nat.le_refl _ | (show _ + 1 ≤ 4294967296; omega) | (dsimp only; omega) | (show (_ : Int) ≤ (_ : Int); omega) | (show _ < List.length _; simp only [List.length_set, List.length_append, List.length_take]; omega) | (show wantB _ _ = true; simp <;> omega) | (show (_ : Bool) = _; simp_all; done) | (exfalso; omega) | refine aRegion_auto (by decide +kernel) ?_ | refine ⟨_, _, REnt.drop ⟨rfl, rfl⟩, ?_⟩ | fail))
              refine ⟨y + 1, ⟨by show x ≤ y + 1; omega, by show y + 1 ≤ n; omega⟩, by show n - (y + 1) < n - y; omega, Ent.ren [0, 3] rfl ?_ ?_⟩
              · (repeat' (first | exact trivial | exact rfl | refine And.intro ?_ ?_))
                refine congrArg (fun z => some (AO.row int z)) (?_ : List.take (Bp.want g hm x y).length (natL (Bp.want g hm x y)) ++ [(y : Int)] = natL (Bp.want g hm x (y + 1)))
                rw [List.take_of_length_le (by omega), hny, natL_add]; rfl
              · (repeat' (first | exact trivial | exact rfl | refine And.intro ?_ ?_))
                refine congrArg (AV.ref 3 0) (?_ : (Bp.want g hm x y).length + 1 = (Bp.want g hm x (y + 1)).length)
                rw [hny, List.length_append]; rfl
            · have hiG2 : ¬ Bp.inG g hm x y = true := by unfold Bp.inG; simp [hgy]
              rw [if_neg hiG2] at hny
              (repeat' (first | exact trivial | exact fun h => h | refine And.intro ?_ ?_ | (intro hb; try simp at hb) | omega | exact rfl | exact Nat.le_refl _ | (show _ + 1 ≤ 4294967296; omega) | (dsimp only; omega) | (show (_ : Int) ≤ (_ : Int); omega) | (show _ < List.length _; simp only [List.length_set, List.length_append, List.length_take]; omega) | (show wantB _ _ = true; simp <;> omega) | (show (_ : Bool) = _; simp_all; done) | (exfalso; omega) | refine aRegion_auto (by decide +kernel) ?_ | refine ⟨_, _, REnt.drop ⟨rfl, rfl⟩, ?_⟩ | fail))
              refine ⟨y + 1, ⟨by show x ≤ y + 1; omega, by show y + 1 ≤ n; omega⟩, by show n - (y + 1) < n - y; omega, Ent.sub (by rw [hny]) ?_⟩
              (repeat' (first | exact trivial | exact rfl | refine And.intro ?_ ?_))
              exact congrArg (fun z : List Nat => AV.ref 1 0 z.length) hny.symm
          · have hiG2 : ¬ Bp.inG g hm x y = true := by unfold Bp.inG; simp [hyy]
            rw [if_neg hiG2] at hny
            (repeat' (first | exact trivial | exact fun h => h | refine And.intro ?_ ?_ | (intro hb; try simp at hb) | omega | exact rfl | exact Nat.le_refl _ | (show _ + 1 ≤ 4294967296; omega) | (dsimp only; omega) | (show (_ : Int) ≤ (_ : Int); omega) | (show _ < List.length _; simp only [List.length_set, List.length_append, List.length_take]; omega) | (show wantB _ _ = true; simp <;> omega) | (show (_ : Bool) = _; simp_all; done) | (exfalso; omega) | refine aRegion_auto (by decide +kernel) ?_ | refine ⟨_, _, REnt.drop ⟨rfl, rfl⟩, ?_⟩ | fail))
            refine ⟨y + 1, ⟨by show x ≤ y + 1; omega, by show y + 1 ≤ n; omega⟩, by show n - (y + 1) < n - y; omega, Ent.sub (by rw [hny]) ?_⟩
            (repeat' (first | exact trivial | exact rfl | refine And.intro ?_ ?_))
            exact congrArg (fun z : List Nat => AV.ref 1 0 z.length) hny.symm
        obtain rfl : n = y := by omega
        obtain ⟨W, hW⟩ : ∃ W, natL (Bp.want g hm x n) = W := ⟨_, rfl⟩
        have hWl : W.length = (Bp.want g hm x n).length := by rw [← hW, natL_len]
        (repeat' (first | exact trivial | exact fun h => h | refine And.intro ?_ ?_ | (intro hb; try simp at hb) | omega | exact rfl | exact Nat.le_refl _ | (show _ + 1 ≤ 4294967296; omega) | (dsimp only; omega) | (show (_ : Int) ≤ (_ : Int); omega) | (show _ < List.length _; simp only [List.length_set, List.length_append, List.length_take]; omega) | (show wantB _ _ = true; simp <;> omega) | (show (_ : Bool) = _; simp_all; done) | (exfalso; omega) | refine aRegion_auto (by decide +kernel) ?_ | refine ⟨_, _, REnt.drop ⟨rfl, rfl⟩, ?_⟩ | fail))
        refine acall_lend [.keep, .dat (.list int)] _ _ _ rfl ?_ rfl ?_
        · (repeat' (first | exact trivial | refine And.intro ?_ ?_ | (show _ ≤ _; omega) | (show _ ≤ _; simp; done)))
        refine acall_arg (sameInts_mercatorlaw4 _ W W (by omega) _ ⟨rfl, ?_⟩) (show [AV.fz (.list int) W, AV.fz (.list int) W] = [AV.fz (.list int) (J.getD (Int.toNat ((Bp.wants g hm n x).length : Int)) (Ty.list int).dft), AV.fz (.list int) (List.take (Bp.want g hm x n).length (natL (Bp.want g hm x n)))] by rw [hJk2, hW, List.take_of_length_le (by omega)])
        rw [decide_eq_true rfl]
        (repeat' (first | exact trivial | exact fun h => h | refine And.intro ?_ ?_ | (intro hb; try simp at hb) | omega | exact rfl | exact Nat.le_refl _ | (show _ + 1 ≤ 4294967296; omega) | (dsimp only; omega) | (show (_ : Int) ≤ (_ : Int); omega) | (show _ < List.length _; simp only [List.length_set, List.length_append, List.length_take]; omega) | (show wantB _ _ = true; simp <;> omega) | (show (_ : Bool) = _; simp_all; done) | (exfalso; omega) | refine aRegion_auto (by decide +kernel) ?_ | refine ⟨_, _, REnt.drop ⟨rfl, rfl⟩, ?_⟩ | fail))
        refine ⟨x + 1, by show x + 1 ≤ n; omega, by show n - (x + 1) < n - x; omega, Ent.ren [0] rfl ?_ ?_⟩
        · (repeat' (first | exact trivial | exact rfl | refine And.intro ?_ ?_))
        · (repeat' (first | exact trivial | exact rfl | refine And.intro ?_ ?_))
          refine congrArg (AV.fz int) (?_ : ((Bp.wants g hm n x).length : Int) + 1 = ((Bp.wants g hm n (x + 1)).length : Int))
          rw [hnx, List.length_append]; rfl
      · have hiG : ¬ Bp.isG g hm x = true := by unfold Bp.isG; simp [hgx]
        rw [if_neg hiG] at hnx
        (repeat' (first | exact trivial | exact fun h => h | refine And.intro ?_ ?_ | (intro hb; try simp at hb) | omega | exact rfl | exact Nat.le_refl _ | (show _ + 1 ≤ 4294967296; omega) | (dsimp only; omega) | (show (_ : Int) ≤ (_ : Int); omega) | (show _ < List.length _; simp only [List.length_set, List.length_append, List.length_take]; omega) | (show wantB _ _ = true; simp <;> omega) | (show (_ : Bool) = _; simp_all; done) | (exfalso; omega) | refine aRegion_auto (by decide +kernel) ?_ | refine ⟨_, _, REnt.drop ⟨rfl, rfl⟩, ?_⟩ | fail))
        refine ⟨x + 1, by show x + 1 ≤ n; omega, by show n - (x + 1) < n - x; omega, Ent.sub rfl ?_⟩
        (repeat' (first | exact trivial | exact rfl | refine And.intro ?_ ?_))
        exact congrArg (fun z : List (List Int) => AV.fz int (z.length : Int)) hnx.symm
    · have hiG : ¬ Bp.isG g hm x = true := by unfold Bp.isG; simp [hxx]
      rw [if_neg hiG] at hnx
      (repeat' (first | exact trivial | exact fun h => h | refine And.intro ?_ ?_ | (intro hb; try simp at hb) | omega | exact rfl | exact Nat.le_refl _ | (show _ + 1 ≤ 4294967296; omega) | (dsimp only; omega) | (show (_ : Int) ≤ (_ : Int); omega) | (show _ < List.length _; simp only [List.length_set, List.length_append, List.length_take]; omega) | (show wantB _ _ = true; simp <;> omega) | (show (_ : Bool) = _; simp_all; done) | (exfalso; omega) | refine aRegion_auto (by decide +kernel) ?_ | refine ⟨_, _, REnt.drop ⟨rfl, rfl⟩, ?_⟩ | fail))
      refine ⟨x + 1, by show x + 1 ≤ n; omega, by show n - (x + 1) < n - x; omega, Ent.sub rfl ?_⟩
      (repeat' (first | exact trivial | exact rfl | refine And.intro ?_ ?_))
      exact congrArg (fun z : List (List Int) => AV.fz int (z.length : Int)) hnx.symm
  obtain rfl : n = x := by omega
  (repeat' (first | exact trivial | exact fun h => h | refine And.intro ?_ ?_ | (intro hb; try simp at hb) | omega | exact rfl | exact Nat.le_refl _ | (show _ + 1 ≤ 4294967296; omega) | (dsimp only; omega) | (show (_ : Int) ≤ (_ : Int); omega) | (show _ < List.length _; simp only [List.length_set, List.length_append, List.length_take]; omega) | (show wantB _ _ = true; simp <;> omega) | (show (_ : Bool) = _; simp_all; done) | (exfalso; omega) | refine aRegion_auto (by decide +kernel) ?_ | refine ⟨_, _, REnt.drop ⟨rfl, rfl⟩, ?_⟩ | fail))
  exact kbl hK (by rw [hJ]; simp)
end Go.Proofs.YtgjjooophigkoaaGreatDoor
/-
  BasinPasses at nil.
-/
namespace Go.Proofs.YtgjjooophigkoaaGreatDoor
open Go Go.Ab
set_option maxRecDepth 100000
theorem basinPasses_nil {E : Errs} (level : Int) (K : AV → List AO → Prop) (hK : K (.fz .bool true) []) :
    ACall Tryz.prog (G8 E) 5 [.fz .raw (.pointer none), .fz int level] [] K := by
  refine acall_mk (E := envAt (G8 E) 243 0) (envOk _ _ _) Tryz.func5 rfl rfl rfl rfl rfl ?_
  (repeat' (first | exact trivial | exact fun h => h | refine And.intro ?_ ?_ | (intro hb; try simp at hb) | omega | exact rfl | exact Nat.le_refl _ | (show _ + 1 ≤ 4294967296; omega) | (dsimp only; omega) | (show (_ : Int) ≤ (_ : Int); omega) | (show _ < List.length _; simp only [List.length_set, List.length_append, List.length_take]; omega) | (show wantB _ _ = true; simp <;> omega) | (show (_ : Bool) = _; simp_all; done) | (exfalso; omega) | refine aRegion_auto (by decide +kernel) ?_ | refine ⟨_, _, REnt.drop ⟨rfl, rfl⟩, ?_⟩ | fail))
  refine acall_frame0 rfl (based_any E _ ?_)
  (repeat' (first | exact trivial | exact fun h => h | refine And.intro ?_ ?_ | (intro hb; try simp at hb) | omega | exact rfl | exact Nat.le_refl _ | (show _ + 1 ≤ 4294967296; omega) | (dsimp only; omega) | (show (_ : Int) ≤ (_ : Int); omega) | (show _ < List.length _; simp only [List.length_set, List.length_append, List.length_take]; omega) | (show wantB _ _ = true; simp <;> omega) | (show (_ : Bool) = _; simp_all; done) | (exfalso; omega) | refine aRegion_auto (by decide +kernel) ?_ | refine ⟨_, _, REnt.drop ⟨rfl, rfl⟩, ?_⟩ | fail))
  refine acall_frame0 rfl (small80_nil _ _ ?_)
  (repeat' (first | exact trivial | exact fun h => h | refine And.intro ?_ ?_ | (intro hb; try simp at hb) | omega | exact rfl | exact Nat.le_refl _ | (show _ + 1 ≤ 4294967296; omega) | (dsimp only; omega) | (show (_ : Int) ≤ (_ : Int); omega) | (show _ < List.length _; simp only [List.length_set, List.length_append, List.length_take]; omega) | (show wantB _ _ = true; simp <;> omega) | (show (_ : Bool) = _; simp_all; done) | (exfalso; omega) | refine aRegion_auto (by decide +kernel) ?_ | refine ⟨_, _, REnt.drop ⟨rfl, rfl⟩, ?_⟩ | fail))
  exact hK
end Go.Proofs.YtgjjooophigkoaaGreatDoor
/-
  What the laid variables give: eight errors, all different, and the handle of type error.
-/
namespace Go.Proofs.YtgjjooophigkoaaGreatDoor
open Go Go.Ab Go.RowKit Go.ChangeShapes
set_option maxRecDepth 100000
theorem star : "*" ++ "errors.errorString" = "*errors.errorString" := by decide
theorem names_at (u : TypeId) (h : Tryz.prog.typeName? 3 u = some "*errors.errorString") : u = 293 :=
  typeName_ptr_named (nm := "errors.errorString") (by rw [star]; kernel_rfl) (by kernel_rfl) (by decide) u (by rw [star]; exact h)
theorem cells_es : Tryz.prog.cellsOf 295 = 1 := by kernel_rfl
theorem cells_str : Tryz.prog.cellsOf 9 = 1 := by kernel_rfl
theorem glob_ty (g : Nat) (hg : g ∈ [2, 1, 0, 3, 4, 5, 6, 7]) :
    ∃ ti ms, (Tryz.prog.globals[g]?).map (·.type) = some ti ∧ Tryz.prog.underlying ti = some (.interface ms) := by
  have : ([2, 1, 0, 3, 4, 5, 6, 7].all fun g => (Tryz.prog.globals[g]?).map (·.type) == some 27) = true := by kernel_rfl
  exact ⟨27, _, by simpa using List.all_eq_true.1 this g hg, Tryz.underlying27⟩
theorem et_at : Tryz.prog.globalNamed "errors.errorType" = some 8 := by kernel_rfl
theorem rt_at : (Tryz.prog.cutTypes.find? (·.1 == "internal/reflectlite.rtype")).map (·.2) = some 221 := by kernel_rfl
theorem one_row : ((List.range Tryz.prog.types.size).filter fun t => Tryz.prog.rowNamed t [101, 114, 114, 111, 114]) = [27] := by kernel_rfl
/-- of a list of the eight errors and the handle -/
theorem globs8 {W : World} {l : List (String × DataW Unit)} {x1 x2 x3 x4 x5 x6 x7 x8 : List UInt8} (h : laidMetH Tryz.prog l W)
    (hl : (l.filter fun x => x.2.handleName?.isNone) = [("mercator/api.ErrText", errD x1), ("mercator/api.ErrBound", errD x2), ("mercator/api.ErrShape", errD x3), ("mercator/api.ErrRange", errD x4), ("mercator/api.ErrName", errD x5), ("mercator/api.ErrNone", errD x6), ("mercator/api.ErrOrder", errD x7), ("mercator/api.ErrFile", errD x8)])
    (hh : (l.filter fun x => x.2.handleName?.isSome) = [("errors.errorType", .iface "internal/reflectlite.rtype" (.agg [.ptr (.lit (.string [101, 114, 114, 111, 114]))]))]) :
    ∃ E : Errs, (EL E).Nodup ∧ ∀ g v, gk (G8 E) g = some v → Glo0 W g v := by
  obtain ⟨h1, h2⟩ := laidMetH_iff.1 h
  rw [hl] at h1
  rw [hh] at h2
  obtain ⟨ps, hv, hn, hall⟩ := h1
  obtain ⟨al, k1, k2, k3, _⟩ := laid_errs names_at Tryz.underlying293 Tryz.underlying295 rfl rfl Tryz.underlying9 cells_es cells_str
    [("mercator/api.ErrText", x1), ("mercator/api.ErrBound", x2), ("mercator/api.ErrShape", x3), ("mercator/api.ErrRange", x4), ("mercator/api.ErrName", x5), ("mercator/api.ErrNone", x6), ("mercator/api.ErrOrder", x7), ("mercator/api.ErrFile", x8)]
    [2, 1, 0, 3, 4, 5, 6, 7] ps hv hn hall (by kernel_rfl) glob_ty
  obtain ⟨a1, a2, a3, a4, a5, a6, a7, a8, rfl⟩ : ∃ a1 a2 a3 a4 a5 a6 a7 a8, al = [a1, a2, a3, a4, a5, a6, a7, a8] := by
    match al, k1 with
    | [a1, a2, a3, a4, a5, a6, a7, a8], _ => exact ⟨a1, a2, a3, a4, a5, a6, a7, a8, rfl⟩
  have hE : Glo0 W 8 asK.errType := by
    obtain ⟨name, u, ty, e1, e2, e3, e4, e5⟩ := h2 _ (List.mem_singleton.2 rfl)
    have en : name = [101, 114, 114, 111, 114] := (Option.some.inj e1).symm
    subst en
    obtain rfl := Option.some.inj (rt_at.symm.trans e2)
    have hm : ty ∈ (List.range Tryz.prog.types.size).filter fun t => Tryz.prog.rowNamed t [101, 114, 114, 111, 114] := List.mem_filter.2 ⟨List.mem_range.2 e3, e4⟩
    rw [one_row] at hm
    obtain rfl := List.mem_singleton.1 hm
    have hh : typeHandle Tryz.prog 27 = .pointer (some ⟨17, 27, none⟩) := by kernel_rfl
    rw [hh] at e5
    exact ⟨by simpa [asK.errType] using World.var?_cell et_at e5 0, rfl, fun T a e => by cases e⟩
  refine ⟨⟨a1, a2, a3, a4, a5, a6, a7, a8⟩, k2, fun g v hg => ?_⟩
  unfold G8 gk at hg
  split at hg
  · rename_i e; subst e; cases hg; exact k3 2 _ _ rfl rfl
  unfold gk at hg
  split at hg
  · rename_i e; subst e; cases hg; exact k3 3 _ _ rfl rfl
  unfold gk at hg
  split at hg
  · rename_i e; subst e; cases hg; exact k3 1 _ _ rfl rfl
  unfold gk at hg
  split at hg
  · rename_i e; subst e; cases hg; exact k3 0 _ _ rfl rfl
  unfold gk at hg
  split at hg
  · rename_i e; subst e; cases hg; exact k3 4 _ _ rfl rfl
  unfold gk at hg
  split at hg
  · rename_i e; subst e; cases hg; exact k3 5 _ _ rfl rfl
  unfold gk at hg
  split at hg
  · rename_i e; subst e; cases hg; exact k3 6 _ _ rfl rfl
  unfold gk at hg
  split at hg
  · rename_i e; subst e; cases hg; exact k3 7 _ _ rfl rfl
  unfold gk at hg
  split at hg
  · rename_i e; subst e; cases hg; exact hE
  · cases hg
end Go.Proofs.YtgjjooophigkoaaGreatDoor
/-
  BasinPasses answers true, whatever it is asked (no condition).
-/
namespace Go.Proofs.YtgjjooophigkoaaGreatDoor.basinPasses
open Go Go.ChangeShapes Go.WideShapes Go.ChangeAt Go.RowKit Go.Ab
set_option maxRecDepth 100000
theorem own : ownKnob Tryz.prog.godebug = none := by kernel_rfl
theorem laidOut : laidOutB Tryz.prog = true := by kernel_rfl
theorem quiets {a : Assume} {C : Checked} {os : Os} {f : FuncId} {r : Reach} {Pre : World → Array Value → Prop} {Post : World → Array Value → Value → World → Prop}
    (h : ReturnsInHanded a C os f r Pre Post) : ReturnsInLeavingWide a C os f r Pre Post :=
  fun enter => ReturnsInOpen.mono (fun _ _ _ x => ⟨x.2.1, onlyLeaving_of_quiet x.1, x.2.2⟩) (fun _ x => x) (h enter)
theorem lifted (os : Os) (started : os.Started) (H : Type) (enc : TypeId × Value → H) :
    ReturnsInHanded {} Tryz.checked os 5 .any (fun w args => (Rows.basinPassesSpec.pre enc Tryz.prog Tryz.f5 [] false w args ∧ laidMetH Tryz.prog Rows.basinPassesRow.laid w) ∧ sizedMet enc Tryz.prog Tryz.f5 (OpenSpec.ofChange Rows.basinPassesSpec) false w args)
      (Rows.basinPassesSpec.post enc Tryz.prog Tryz.f5 false true false false) := by
  refine returnsInHanded_of_change_and (C := Tryz.checked) (X := fun w _ => laidMetH Tryz.prog Rows.basinPassesRow.laid w) (fun _ _ _ hh h => h.of_heap hh) own started (by kernel_rfl) Tryz.func5
    (ChangeSpec.witness_shaped (enc := enc) (C := Tryz.checked) (os := os) (X := fun w _ => laidMetH Tryz.prog Rows.basinPassesRow.laid w) false (World.doorLaid Tryz.prog 400 os) #[.pointer none, .int .i64 0] 8 rfl (World.shaped_of_RefB (by kernel_rfl) (by kernel_rfl)) (by kernel_rfl) (by kernel_rfl) (by kernel_rfl)
      (laidMetH_of_parts3 (fuel := 8) (laidMet_of_run' 8 (by kernel_rfl) (by kernel_rfl)) (by kernel_rfl) (by kernel_rfl))) ?_
  intro W base args ds gs before hval0 hW _ _ hL _
  have hval : ∀ (j : Nat) t v, Tryz.f5.params[j]? = some t → args[j]? = some v → Value.okWide Tryz.prog W .any base t v := hval0
  have hW' := hW
  obtain ⟨p, q, hA0, hV, rfl, hfz, hnd⟩ := hW
  have hA : DataW.TrodAll enc Tryz.prog W 0 (fun _ => true) true Tryz.f5.params.toList args.toList ds p := hA0
  obtain ⟨rfl, rfl⟩ := trodVars_none hV
  simp only [List.append_nil] at hW'
  have hAll : ∀ W', Below W.heap.size W W' → DataW.TrodAll enc Tryz.prog W' 0 (fun b => decide (b < W.heap.size)) true Tryz.f5.params.toList args.toList ds p :=
    fun W' hb => trodAll_below laidOut hb _ _ _ _ (by rw [Tryz.params5]; exact of_decide_eq_true (by kernel_rfl)) hA (fun x hx => hW'.lt x hx)
  rw [Tryz.params5] at hA hval
  obtain ⟨v0, vs0, d0, ds0, p0, q0, hargs, rfl, rfl, h0, t0⟩ := trodAll_cons hA
  obtain ⟨v1, vs1, d1, ds1, p1, q1, rfl, rfl, rfl, h1, t1⟩ := trodAll_cons t0
  obtain ⟨rfl, rfl, rfl⟩ := trodAll_nil t1
  obtain rfl : args = #[v0, v1] := by cases args; simp_all
  clear hA0 hval0
  obtain ⟨E, hN, hE⟩ := globs8 hL rfl rfl
  have o0 := open_ptr (n := 4) (ty := RasT) tabOk (show tptrTo tab 22 = some 32 by kernel_rfl) (by kernel_rfl) (G8 E) (hval 0 _ v0 rfl rfl) h0
  obtain ⟨y1, r1, b1⟩ := open_val (n := 1) (ty := int) tabOk (by kernel_rfl) (G8 E) (hval 1 _ v1 rfl rfl) h1
  have fin : Calls Tryz.prog 5 #[v0, v1] W fun e w' => e = .returned (.bool true) ∧ Below W.heap.size W w' := by
    rcases o0 with rfl | ⟨y0, r0, b0⟩
    · exact acall_true (vs := [.pointer none, v1]) (basinPasses_nil y1 _ rfl) hE ⟨_, _, rfl, (rel_raw rfl).2 rfl, _, _, rfl, r1, rfl⟩
    · have hl0 : y0.2.2.length ≤ 9223372036854775807 := by have := b0.2.2.1; unfold maxLen at this; omega
      exact acall_true (vs := [v0, v1]) (basinPasses_some hN y0 y1 hl0 _ rfl) hE ⟨_, _, rfl, r0, _, _, rfl, r1, rfl⟩
  refine fin.mono fun e W' ⟨he, hg⟩ => ?_
  subst he
  exact ⟨_, rfl, _, _, _, [], _, [], hW', trodAll_mk1 (shut_bool Tryz.underlying4 _), hAll W' hg, rfl, hg.frame _, fun h => by cases h⟩
theorem row : Rows.BasinPassesSaid :=
  OpenClaim.holds_of_wide_leaving 5 Tryz.f5 rfl rfl rfl rfl rfl rfl rfl ⟨rfl, rfl, rfl, rfl, rfl⟩ rfl rfl rfl rfl rfl (by kernel_rfl) Tryz.func5 (by kernel_rfl)
    (of_decide_eq_true (by kernel_rfl)) (by unfold Func.isWrapper; first | (rw [if_pos (by decide +kernel)]; kernel_rfl) | (rw [if_neg (by decide +kernel)]; exact ⟨rfl, rfl⟩))
    (fun os started H enc _ => quiets (lifted os started H enc))
/-- a tied card of a row whose program starts goroutines elsewhere -/
theorem tied_goes (Lk : Looks) {p : Pinned} {s : OpenSpec} {c : OpenClaim} (kinds : List LaidKind) (tests : Bool) (har : Bool × String) (lk : Bool)
    (hc : c.holds p s) (hw : c.wfByText s = true) (htie : c.laidByTextAt Lk p kinds tests)
    (hst : c.start = .entering) (hnb : c.noBlocks = false ∧ c.again = false) (hm : p.checked.prog.mainIs = some (har.1, har.2.toList)) (hn : (!har.1 && har.2.isEmpty && !lk) = false)
    (hl : ∀ f fn, p.checked.prog.funcNamed c.func = some f → p.checked.prog.funcs[f]? = some fn → lk = p.checked.prog.looks [] ∧ ∀ (j : Nat) t, fn.params[j]? = some t → p.checked.prog.wantsStandIn t = false)
    (hg : true = c.goesBy p.checked.prog) :
    Claim7.holds p (.plain s) { stood := { row := c, standIns := [], harness := har, looks := lk }, kinds := [], alts := [], goes := true, laidByText := true, laidKinds := kinds, laidTests := tests, laidLooks := Lk } := by
  have h6 : ∀ r : OpenClaim, Claim7.isSixth { stood := { row := r, standIns := [], harness := har, looks := lk }, kinds := [] } = false := fun r => by simpa [Claim7.isSixth] using hn
  exact ⟨Claim7.tied_new_at Lk kinds tests (Claim7.new_of_sixth hc har lk hst hnb hm (h6 c) hl) hw, (fun D hD => by cases hD), htie, (fun h => by cases h), hg⟩
theorem proved : Rows.BasinPassesCardSaid :=
  tied_goes .later [.handle, .sentinel, .sentinel, .sentinel, .sentinel, .sentinel, .sentinel, .sentinel, .sentinel] true (true, "b99f14f18e99793d76e43267b16ad103d36b9b5ca1bd6f26a5f1606db8da4d16") true
    row (by kernel_rfl) basinPasses_row_tie rfl ⟨rfl, rfl⟩ (by kernel_rfl) rfl
    (fun f fn hf hfn => by
      obtain rfl : f = 5 := Option.some.inj ((show Tryz.prog.funcNamed "mercator/mercatorlaw4.BasinPasses" = some 5 by kernel_rfl).symm.trans hf) |>.symm
      obtain rfl : fn = Tryz.f5 := (Option.some.inj (Tryz.func5.symm.trans hfn)).symm
      exact ⟨by kernel_rfl, fun j t ht => by
        rw [Tryz.params5] at ht
        have hm : t ∈ [22, 3] := by simpa using Array.mem_of_getElem? ht
        have hall : ([22, 3].all fun u => !Tryz.prog.wantsStandIn u) = true := by kernel_rfl
        exact (show Tryz.prog.wantsStandIn t = false by simpa using List.all_eq_true.1 hall t hm)⟩)
    (by kernel_rfl)
end Go.Proofs.YtgjjooophigkoaaGreatDoor.basinPasses
