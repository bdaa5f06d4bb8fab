/-
  Is a map valid: the walk.
-/
import Derived.Test.YtcfalmdfohphoaaDoorM8
import Derived.Shelf.SlSortCmp.Whole1
import Derived.Test.YtcfalmdfohphoaaDoorProg
namespace Go.Proofs.YtcfalmdfohphoaaDoor
open Go Go.Ab Mp
set_option maxRecDepth 100000
def ngB (p : Int × Int) : Bool := !plB p
theorem MB_of {m : Shp.Arcs} (h1 : m.length ≤ 60) (h2 : Shp.tot m m.length ≤ 4000) (h3 : ∀ i, i < m.length → Shp.badA ngB (Shp.arc m i) = false) : MB m := by
  refine ⟨by omega, fun i hi => ((Shp.badA_iff _ _).1 (h3 i hi)).1, fun i hi => by have := Shp.len_tot hi; omega, fun i t ⟨hi, ht⟩ => ?_⟩
  have := ((Shp.badA_iff _ _).1 (h3 i hi)).2.1 t ht
  unfold ngB at this
  exact (Bool.not_eq_false' (plB (Shp.pt m i t))).mp this
set_option maxHeartbeats 4000000 in
theorem valid_any (E : Errs) (m : Shp.Arcs) (hl : m.length ≤ 1000000000000000) (hlen : ∀ i, i < m.length → (Shp.arc m i).length ≤ 8796093022208) (K : AV → List AO → Prop) (hK : K (.fz .raw (er E (Shp.vE ngB m))) []) : ACall Tryd.prog (G8 E) 17 [.fz MpT m] [] K := by
  have hat : ∀ i : Nat, List.getD m (Int.toNat (i : Int)) SpT.list.dft = Shp.arc m i := fun i => rfl
  refine acall_mk (E := envAt (G8 E) 151 0) (envOk _ _ _) Tryd.func17 rfl rfl rfl rfl rfl ?_
  (repeat' (first | exact trivial | exact fun h => h | refine And.intro ?_ ?_ | (intro hb; try simp at hb) | omega | exact rfl | exact Nat.le_refl _ | (show _ + 1 ≤ 4294967296; omega) | (show _ + 1 ≤ 5864062014634; omega) | (dsimp only; omega) | (show (_ : Int) ≤ (_ : Int); omega) | (show _ < List.length _; simp only [List.length_set, List.length_append, List.length_take]; omega) | (show wantB _ _ = true; simp <;> omega) | (show (_ : Bool) = _; simp_all; done) | (exfalso; omega) | refine aRegion_auto (by decide +kernel) ?_ | fail))
  refine ⟨Nat, fun i => ⟨[(1, .ptr 0 0), (3, .fz int (wr (Shp.tot m i))), (21, .fz (.list (.list SpT)) m), (22, .fz int m.length), (23, .fz int i), (1000003, .unk)], [.box [.fz (.list (.list SpT)) m]]⟩, fun i => i ≤ m.length, fun i => m.length - i, 0, Nat.zero_le _, Ent.sub ?_ ?_, ?_⟩
  · (repeat' (first | exact rfl | refine cons_eq ?_ ?_))
  · (repeat' (first | exact trivial | exact rfl | refine And.intro ?_ ?_))
  intro i hi
  have hi : i ≤ m.length := hi
  have htf := Shp.tot_full hi
  obtain ⟨n, hn⟩ : ∃ n, Shp.tot m i = n := ⟨_, rfl⟩
  show awp _ _ _ ⟨[(1, .ptr 0 0), (3, .fz int (wr (Shp.tot m i))), (21, .fz (.list (.list SpT)) m), (22, .fz int m.length), (23, .fz int i), (1000003, .unk)], [.box [.fz (.list (.list SpT)) m]]⟩
  rw [hn] at htf ⊢
  by_cases hil : i < m.length
  · obtain ⟨a, ha⟩ : ∃ a, Shp.arc m i = a := ⟨_, rfl⟩
    have hg := hat i
    have hal := hlen i hil
    have hnx := Shp.tot_next hil
    rw [ha] at hg hal hnx
    rw [hn] at hnx
    (repeat' (first | exact trivial | exact fun h => h | refine And.intro ?_ ?_ | (intro hb; try simp at hb) | omega | exact rfl | exact Nat.le_refl _ | (show _ + 1 ≤ 4294967296; omega) | (show _ + 1 ≤ 5864062014634; omega) | (dsimp only; omega) | (show (_ : Int) ≤ (_ : Int); omega) | (show _ < List.length _; simp only [List.length_set, List.length_append, List.length_take]; omega) | (show wantB _ _ = true; simp <;> omega) | (show (_ : Bool) = _; simp_all; done) | (exfalso; omega) | refine aRegion_auto (by decide +kernel) ?_ | fail))
    rw [hg]
    (repeat' (first | exact trivial | exact fun h => h | refine And.intro ?_ ?_ | (intro hb; try simp at hb) | omega | exact rfl | exact Nat.le_refl _ | (show _ + 1 ≤ 4294967296; omega) | (show _ + 1 ≤ 5864062014634; omega) | (dsimp only; omega) | (show (_ : Int) ≤ (_ : Int); omega) | (show _ < List.length _; simp only [List.length_set, List.length_append, List.length_take]; omega) | (show wantB _ _ = true; simp <;> omega) | (show (_ : Bool) = _; simp_all; done) | (exfalso; omega) | refine aRegion_auto (by decide +kernel) ?_ | fail))
    refine aact_addW (a := wr n) (b := (a.length : Int)) rfl rfl ?_
    rw [wr_add, ← hnx]
    (repeat' (first | exact trivial | exact fun h => h | refine And.intro ?_ ?_ | (intro hb; try simp at hb) | omega | exact rfl | exact Nat.le_refl _ | (show _ + 1 ≤ 4294967296; omega) | (show _ + 1 ≤ 5864062014634; omega) | (dsimp only; omega) | (show (_ : Int) ≤ (_ : Int); omega) | (show _ < List.length _; simp only [List.length_set, List.length_append, List.length_take]; omega) | (show wantB _ _ = true; simp <;> omega) | (show (_ : Bool) = _; simp_all; done) | (exfalso; omega) | refine aRegion_auto (by decide +kernel) ?_ | fail))
    refine aact_addW (a := (i : Int)) (b := 1) rfl rfl ?_
    rw [show IntKind.i64.wrap ((i : Int) + 1) = (i : Int) + 1 from I64.wrap (by unfold I64; omega)]
    (repeat' (first | exact trivial | exact fun h => h | refine And.intro ?_ ?_ | (intro hb; try simp at hb) | omega | exact rfl | exact Nat.le_refl _ | (show _ + 1 ≤ 4294967296; omega) | (show _ + 1 ≤ 5864062014634; omega) | (dsimp only; omega) | (show (_ : Int) ≤ (_ : Int); omega) | (show _ < List.length _; simp only [List.length_set, List.length_append, List.length_take]; omega) | (show wantB _ _ = true; simp <;> omega) | (show (_ : Bool) = _; simp_all; done) | (exfalso; omega) | refine aRegion_auto (by decide +kernel) ?_ | fail))
    refine ⟨i + 1, by show i + 1 ≤ m.length; omega, by show m.length - (i + 1) < m.length - i; omega, Ent.sub rfl ?_⟩
    · (repeat' (first | exact trivial | exact rfl | refine And.intro ?_ ?_))
  · obtain rfl : i = m.length := by omega
    by_cases hB : 60 < m.length ∨ 4000 < Shp.tot m m.length
    · have e := Shp.vE_bound (g := ngB) hB
      rw [e] at hK
      by_cases h60 : 60 < m.length
      · (repeat' (first | exact trivial | exact fun h => h | refine And.intro ?_ ?_ | (intro hb; try simp at hb) | omega | exact rfl | exact Nat.le_refl _ | (show _ + 1 ≤ 4294967296; omega) | (show _ + 1 ≤ 5864062014634; omega) | (dsimp only; omega) | (show (_ : Int) ≤ (_ : Int); omega) | (show _ < List.length _; simp only [List.length_set, List.length_append, List.length_take]; omega) | (show wantB _ _ = true; simp <;> omega) | (show (_ : Bool) = _; simp_all; done) | (exfalso; omega) | refine aRegion_auto (by decide +kernel) ?_ | refine ⟨_, _, REnt.drop ⟨rfl, rfl⟩, ?_⟩ | fail))
        exact hK
      · have hs := Shp.tot_wr hlen (by omega)
        rw [hn] at hB hs
        have hB := hB.resolve_left h60
        rw [hs]
        (repeat' (first | exact trivial | exact fun h => h | refine And.intro ?_ ?_ | (intro hb; try simp at hb) | omega | exact rfl | exact Nat.le_refl _ | (show _ + 1 ≤ 4294967296; omega) | (show _ + 1 ≤ 5864062014634; omega) | (dsimp only; omega) | (show (_ : Int) ≤ (_ : Int); omega) | (show _ < List.length _; simp only [List.length_set, List.length_append, List.length_take]; omega) | (show wantB _ _ = true; simp <;> omega) | (show (_ : Bool) = _; simp_all; done) | (exfalso; omega) | refine aRegion_auto (by decide +kernel) ?_ | refine ⟨_, _, REnt.drop ⟨rfl, rfl⟩, ?_⟩ | fail))
        exact hK
    · have hfew : m.length ≤ 60 := by omega
      have htt : Shp.tot m m.length ≤ 4000 := by omega
      have hl4 : ∀ i, i < m.length → (Shp.arc m i).length ≤ 4000 := fun i hi => by have := Shp.len_tot hi; omega
      have hs := Shp.tot_wr hlen (by omega)
      rw [hn] at hs htt
      rw [hs]
      (repeat' (first | exact trivial | exact fun h => h | refine And.intro ?_ ?_ | (intro hb; try simp at hb) | omega | exact rfl | exact Nat.le_refl _ | (show _ + 1 ≤ 4294967296; omega) | (show _ + 1 ≤ 5864062014634; omega) | (dsimp only; omega) | (show (_ : Int) ≤ (_ : Int); omega) | (show _ < List.length _; simp only [List.length_set, List.length_append, List.length_take]; omega) | (show wantB _ _ = true; simp <;> omega) | (show (_ : Bool) = _; simp_all; done) | (exfalso; omega) | refine aRegion_auto (by decide +kernel) ?_ | fail))
      rw [← hn] at htt
      refine ⟨Nat, fun i => ⟨[(1, .ptr 0 0), (42, .fz (.list (.list SpT)) m), (43, .fz int m.length), (44, .fz int i)], [.box [.fz (.list (.list SpT)) m]]⟩, fun i => i ≤ m.length ∧ ∀ j, j < i → Shp.badA ngB (Shp.arc m j) = false, fun i => m.length - i, 0, ⟨Nat.zero_le _, fun j h => absurd h (Nat.not_lt_zero _)⟩, Ent.sub rfl ?_, ?_⟩
      · (repeat' (first | exact trivial | exact rfl | refine And.intro ?_ ?_))
      intro i ⟨hi, hbad⟩
      have hi : i ≤ m.length := hi
      have hbad : ∀ j, j < i → Shp.badA ngB (Shp.arc m j) = false := hbad
      show awp _ _ _ ⟨[(1, .ptr 0 0), (42, .fz (.list (.list SpT)) m), (43, .fz int m.length), (44, .fz int i)], [.box [.fz (.list (.list SpT)) m]]⟩
      by_cases hil : i < m.length
      · obtain ⟨a, ha⟩ : ∃ a, Shp.arc m i = a := ⟨_, rfl⟩
        have hg := hat i
        have hal := hl4 i hil
        rw [ha] at hg hal
        have hgo : Shp.badA ngB a = false → ∀ j, j < i + 1 → Shp.badA ngB (Shp.arc m j) = false := fun h j hj => by
          by_cases c : j = i
          · rw [c, ha]; exact h
          · exact hbad j (by omega)
        have hno : Shp.badA ngB a = true → K (.fz .raw (er E 3)) [] := fun h => by
          rw [Shp.vE_shape hB ⟨i, hil, by rw [ha]; exact h⟩] at hK
          exact hK
        (repeat' (first | exact trivial | exact fun h => h | refine And.intro ?_ ?_ | (intro hb; try simp at hb) | omega | exact rfl | exact Nat.le_refl _ | (show _ + 1 ≤ 4294967296; omega) | (show _ + 1 ≤ 5864062014634; omega) | (dsimp only; omega) | (show (_ : Int) ≤ (_ : Int); omega) | (show _ < List.length _; simp only [List.length_set, List.length_append, List.length_take]; omega) | (show wantB _ _ = true; simp <;> omega) | (show (_ : Bool) = _; simp_all; done) | (exfalso; omega) | fail))
        rw [hg]
        (repeat' (first | exact trivial | exact fun h => h | refine And.intro ?_ ?_ | (intro hb; try simp at hb) | omega | exact rfl | exact Nat.le_refl _ | (show _ + 1 ≤ 4294967296; omega) | (show _ + 1 ≤ 5864062014634; omega) | (dsimp only; omega) | (show (_ : Int) ≤ (_ : Int); omega) | (show _ < List.length _; simp only [List.length_set, List.length_append, List.length_take]; omega) | (show wantB _ _ = true; simp <;> omega) | (show (_ : Bool) = _; simp_all; done) | (exfalso; omega) | fail))
        by_cases h2 : a.length < 2
        · have hbd : Shp.badA ngB a = true := by unfold Shp.badA; rw [decide_eq_true h2]; rfl
          have hK3 := hno hbd
          refine aRegion_auto (by decide +kernel) ?_
          (repeat' (first | exact trivial | exact fun h => h | refine And.intro ?_ ?_ | (intro hb; try simp at hb) | omega | exact rfl | exact Nat.le_refl _ | (show _ + 1 ≤ 4294967296; omega) | (show _ + 1 ≤ 5864062014634; omega) | (dsimp only; omega) | (show (_ : Int) ≤ (_ : Int); omega) | (show _ < List.length _; simp only [List.length_set, List.length_append, List.length_take]; omega) | (show wantB _ _ = true; simp <;> omega) | (show (_ : Bool) = _; simp_all; done) | (exfalso; omega) | fail))
          apply exEff
          · refine ⟨fun h => absurd h (by simp; omega), fun _ => ⟨rfl, rfl⟩⟩
          (repeat' (first | exact trivial | exact fun h => h | refine And.intro ?_ ?_ | (intro hb; try simp at hb) | omega | exact rfl | exact Nat.le_refl _ | (show _ + 1 ≤ 4294967296; omega) | (show _ + 1 ≤ 5864062014634; omega) | (dsimp only; omega) | (show (_ : Int) ≤ (_ : Int); omega) | (show _ < List.length _; simp only [List.length_set, List.length_append, List.length_take]; omega) | (show wantB _ _ = true; simp <;> omega) | (show (_ : Bool) = _; simp_all; done) | (exfalso; omega) | fail))
          any_goals (exact decide_eq_true (by omega))
          apply exEff
          · refine ⟨fun h => absurd h (by simp), fun _ => ⟨rfl, rfl⟩⟩
          (repeat' (first | exact trivial | exact fun h => h | refine And.intro ?_ ?_ | (intro hb; try simp at hb) | omega | exact rfl | exact Nat.le_refl _ | (show _ + 1 ≤ 4294967296; omega) | (show _ + 1 ≤ 5864062014634; omega) | (dsimp only; omega) | (show (_ : Int) ≤ (_ : Int); omega) | (show _ < List.length _; simp only [List.length_set, List.length_append, List.length_take]; omega) | (show wantB _ _ = true; simp <;> omega) | (show (_ : Bool) = _; simp_all; done) | (exfalso; omega) | fail))
          apply exEff
          · refine ⟨fun h => absurd h (by simp), fun _ => ⟨rfl, rfl⟩⟩
          (repeat' (first | exact trivial | exact fun h => h | refine And.intro ?_ ?_ | (intro hb; try simp at hb) | omega | exact rfl | exact Nat.le_refl _ | (show _ + 1 ≤ 4294967296; omega) | (show _ + 1 ≤ 5864062014634; omega) | (dsimp only; omega) | (show (_ : Int) ≤ (_ : Int); omega) | (show _ < List.length _; simp only [List.length_set, List.length_append, List.length_take]; omega) | (show wantB _ _ = true; simp <;> omega) | (show (_ : Bool) = _; simp_all; done) | (exfalso; omega) | refine aRegion_auto (by decide +kernel) ?_ | refine ⟨_, _, REnt.drop ⟨rfl, rfl⟩, ?_⟩ | fail))
          exact hK3
        · have hc0 := containsFuncS_any (G8 E) a 36 (fun p => !plB p) (great_any _) (by omega)
          have hne : a ≠ [] := fun e => h2 (by rw [e]; exact (by decide : 0 < 2))
          obtain ⟨g, hg0⟩ : ∃ g, a.any ngB = g := ⟨_, rfl⟩
          have hc1 : ∀ K : AV → List AO → Prop, K (.fz .bool g) [] → ACall Tryd.prog (G8 E) 35 [.fz (.list SpT) a, .fn 36 []] [] K := fun K h => hc0 K (by
            show K (.fz .bool (a.any ngB)) []
            rw [hg0]; exact h)
          refine aRegion_auto (by decide +kernel) ?_
          (repeat' (first | exact trivial | exact fun h => h | refine And.intro ?_ ?_ | (intro hb; try simp at hb) | omega | exact rfl | exact Nat.le_refl _ | (show _ + 1 ≤ 4294967296; omega) | (show _ + 1 ≤ 5864062014634; omega) | (dsimp only; omega) | (show (_ : Int) ≤ (_ : Int); omega) | (show _ < List.length _; simp only [List.length_set, List.length_append, List.length_take]; omega) | (show wantB _ _ = true; simp <;> omega) | (show (_ : Bool) = _; simp_all; done) | (exfalso; omega) | fail))
          apply exEff
          · refine ⟨fun _ => ?_, fun h => absurd h (by simp; omega)⟩
            (repeat' (first | refine And.intro ?_ ?_ | (show wantB _ _ = true; simp; omega)))
            refine acall_frame0 rfl (hc1 _ ?_)
            exact ⟨rfl, rfl⟩
          (repeat' (first | exact trivial | exact fun h => h | refine And.intro ?_ ?_ | (intro hb; try simp at hb) | omega | exact rfl | exact Nat.le_refl _ | (show _ + 1 ≤ 4294967296; omega) | (show _ + 1 ≤ 5864062014634; omega) | (dsimp only; omega) | (show (_ : Int) ≤ (_ : Int); omega) | (show _ < List.length _; simp only [List.length_set, List.length_append, List.length_take]; omega) | (show wantB _ _ = true; simp <;> omega) | (show (_ : Bool) = _; simp_all; done) | (exfalso; omega) | fail))
          cases g with
          | true =>
            apply exEff
            · refine ⟨fun h => absurd h (by simp), fun _ => ⟨rfl, rfl⟩⟩
            (repeat' (first | exact trivial | exact fun h => h | refine And.intro ?_ ?_ | (intro hb; try simp at hb) | omega | exact rfl | exact Nat.le_refl _ | (show _ + 1 ≤ 4294967296; omega) | (show _ + 1 ≤ 5864062014634; omega) | (dsimp only; omega) | (show (_ : Int) ≤ (_ : Int); omega) | (show _ < List.length _; simp only [List.length_set, List.length_append, List.length_take]; omega) | (show wantB _ _ = true; simp <;> omega) | (show (_ : Bool) = _; simp_all; done) | (exfalso; omega) | fail))
            apply exEff
            · refine ⟨fun h => absurd h (by simp), fun _ => ⟨rfl, rfl⟩⟩
            have hK3 := hno (by unfold Shp.badA; rw [hg0]; simp)
            (repeat' (first | exact trivial | exact fun h => h | refine And.intro ?_ ?_ | (intro hb; try simp at hb) | omega | exact rfl | exact Nat.le_refl _ | (show _ + 1 ≤ 4294967296; omega) | (show _ + 1 ≤ 5864062014634; omega) | (dsimp only; omega) | (show (_ : Int) ≤ (_ : Int); omega) | (show _ < List.length _; simp only [List.length_set, List.length_append, List.length_take]; omega) | (show wantB _ _ = true; simp <;> omega) | (show (_ : Bool) = _; simp_all; done) | (exfalso; omega) | refine aRegion_auto (by decide +kernel) ?_ | refine ⟨_, _, REnt.drop ⟨rfl, rfl⟩, ?_⟩ | fail))
            exact hK3
          | false =>
            have e2 : decide ((a.length : Int) < 2) = false := decide_eq_false (by omega)
            have hq : eqL ([(List.getD a (Int.toNat 0) SpT.dft).fst] ++ [(List.getD a (Int.toNat 0) SpT.dft).snd]) ([(List.getD a ((a.length : Int) - 1).toNat SpT.dft).fst] ++ [(List.getD a ((a.length : Int) - 1).toNat SpT.dft).snd]) = decide (Shp.at_ a 0 = Shp.at_ a (a.length - 1)) := by
              rw [show ((a.length : Int) - 1).toNat = a.length - 1 by omega]
              exact eqS _ _
            have e4 : decide ((a.length : Int) < 4) = decide (a.length < 4) := decide_eq_decide.2 (by omega)
            have hcE : ∀ c1 c4 : Bool, decide (Shp.at_ a 0 = Shp.at_ a (a.length - 1)) = c1 → decide (a.length < 4) = c4 → Shp.badA ngB a = ((c1 && c4) || decide (Shp.twin a)) := fun c1 c4 h1 h4 => by
              unfold Shp.badA
              rw [hg0, h1, h4, decide_eq_false h2]
              rfl
            obtain ⟨n2, hn2⟩ : ∃ n2, (cmpF a).1 = n2 := ⟨_, rfl⟩
            obtain ⟨ct1, ct2⟩ := cmpF_lt (a := a)
            rw [hn2] at ct1 ct2
            rw [e2, hq, e4]
            generalize hc1' : decide (Shp.at_ a 0 = Shp.at_ a (a.length - 1)) = c1
            generalize hc4' : decide (a.length < 4) = c4
            have hbd := hcE c1 c4 hc1' hc4'
            by_cases hcc : (c1 && c4) = true
            · rw [hcc, Bool.true_or] at hbd
              have hK3 := hno hbd
              rw [Bool.and_eq_true] at hcc
              obtain ⟨rfl, rfl⟩ := hcc
              apply exEff
              · refine ⟨fun h => absurd h (by simp), fun _ => ⟨rfl, rfl⟩⟩
              (repeat' (first | exact trivial | exact fun h => h | refine And.intro ?_ ?_ | (intro hb; try simp at hb) | omega | exact rfl | exact Nat.le_refl _ | (show _ + 1 ≤ 4294967296; omega) | (show _ + 1 ≤ 5864062014634; omega) | (dsimp only; omega) | (show (_ : Int) ≤ (_ : Int); omega) | (show _ < List.length _; simp only [List.length_set, List.length_append, List.length_take]; omega) | (show wantB _ _ = true; simp <;> omega) | (show (_ : Bool) = _; simp_all; done) | (exfalso; omega) | fail))
              apply exEff
              · refine ⟨fun h => absurd h (by simp), fun _ => ⟨rfl, rfl⟩⟩
              (repeat' (first | exact trivial | exact fun h => h | refine And.intro ?_ ?_ | (intro hb; try simp at hb) | omega | exact rfl | exact Nat.le_refl _ | (show _ + 1 ≤ 4294967296; omega) | (show _ + 1 ≤ 5864062014634; omega) | (dsimp only; omega) | (show (_ : Int) ≤ (_ : Int); omega) | (show _ < List.length _; simp only [List.length_set, List.length_append, List.length_take]; omega) | (show wantB _ _ = true; simp <;> omega) | (show (_ : Bool) = _; simp_all; done) | (exfalso; omega) | refine aRegion_auto (by decide +kernel) ?_ | refine ⟨_, _, REnt.drop ⟨rfl, rfl⟩, ?_⟩ | fail))
              exact hK3
            · have hcf : (c1 && c4) = false := Bool.eq_false_iff.2 hcc
              rw [hcf, Bool.false_or] at hbd
              cases c1 <;> cases c4
              any_goals (exact absurd rfl hcc)
              all_goals
                apply exEff
                · refine ⟨fun _ => ?_, fun h => absurd h (by simp)⟩
                  (repeat' (first | refine And.intro ?_ ?_ | (show wantB _ _ = true; simp)))
                  refine acall_frame0 rfl (cloneS_any _ a (by omega) (by omega) _ ?_)
                  exact ⟨rfl, rfl⟩
                (repeat' (first | exact trivial | exact fun h => h | refine And.intro ?_ ?_ | (intro hb; try simp at hb) | omega | exact rfl | exact Nat.le_refl _ | (show _ + 1 ≤ 4294967296; omega) | (show _ + 1 ≤ 5864062014634; omega) | (dsimp only; omega) | (show (_ : Int) ≤ (_ : Int); omega) | (show _ < List.length _; simp only [List.length_set, List.length_append, List.length_take]; omega) | (show wantB _ _ = true; simp <;> omega) | (show (_ : Bool) = _; simp_all; done) | (exfalso; omega) | fail))
                apply exEff
                · refine ⟨fun _ => ?_, fun h => absurd h (by simp)⟩
                  (repeat' (first | refine And.intro ?_ ?_ | (show wantB _ _ = true; simp)))
                  refine acall_frame [2] [.row SpT a] [.ref 0 0 a.length] rfl (by repeat' (first | exact rfl | exact trivial | refine And.intro ?_ ?_)) ⟨rfl, rfl⟩ rfl (compactS_any _ a (by omega) (by omega) _ ?_)
                  rw [hn2]
                  exact ⟨rfl, rfl⟩
                by_cases htw : Shp.twin a
                · have hlt := ct1.2 htw
                  rw [decide_eq_true htw] at hbd
                  have hK3 := hno hbd
                  (repeat' (first | exact trivial | exact fun h => h | refine And.intro ?_ ?_ | (intro hb; try simp at hb) | omega | exact rfl | exact Nat.le_refl _ | (show _ + 1 ≤ 4294967296; omega) | (show _ + 1 ≤ 5864062014634; omega) | (dsimp only; omega) | (show (_ : Int) ≤ (_ : Int); omega) | (show _ < List.length _; simp only [List.length_set, List.length_append, List.length_take]; omega) | (show wantB _ _ = true; simp <;> omega) | (show (_ : Bool) = _; simp_all; done) | (exfalso; omega) | refine aRegion_auto (by decide +kernel) ?_ | refine ⟨_, _, REnt.drop ⟨rfl, rfl⟩, ?_⟩ | fail))
                  exact hK3
                · have hge : ¬ n2 < a.length := fun h => htw (ct1.1 h)
                  rw [decide_eq_false htw] at hbd
                  have hgo2 := hgo hbd
                  (repeat' (first | exact trivial | exact fun h => h | refine And.intro ?_ ?_ | (intro hb; try simp at hb) | omega | exact rfl | exact Nat.le_refl _ | (show _ + 1 ≤ 4294967296; omega) | (show _ + 1 ≤ 5864062014634; omega) | (dsimp only; omega) | (show (_ : Int) ≤ (_ : Int); omega) | (show _ < List.length _; simp only [List.length_set, List.length_append, List.length_take]; omega) | (show wantB _ _ = true; simp <;> omega) | (show (_ : Bool) = _; simp_all; done) | (exfalso; omega) | fail))
                  refine ⟨i + 1, ⟨by show i + 1 ≤ m.length; omega, hgo2⟩, by show m.length - (i + 1) < m.length - i; omega, Ent.ren [0] rfl ?_ ?_⟩
                  · (repeat' (first | exact trivial | exact rfl | refine And.intro ?_ ?_))
                  · (repeat' (first | exact trivial | exact rfl | refine And.intro ?_ ?_))
      · obtain rfl : i = m.length := by omega
        have B := MB_of hfew htt hbad
        (repeat' (first | exact trivial | exact fun h => h | refine And.intro ?_ ?_ | (intro hb; try simp at hb) | omega | exact rfl | exact Nat.le_refl _ | (show _ + 1 ≤ 4294967296; omega) | (show _ + 1 ≤ 5864062014634; omega) | (dsimp only; omega) | (show (_ : Int) ≤ (_ : Int); omega) | (show _ < List.length _; simp only [List.length_set, List.length_append, List.length_take]; omega) | (show wantB _ _ = true; simp <;> omega) | (show (_ : Bool) = _; simp_all; done) | (exfalso; omega) | fail))
        refine aact_make fun bm => ?_
        (repeat' (first | exact trivial | exact fun h => h | refine And.intro ?_ ?_ | (intro hb; try simp at hb) | omega | exact rfl | exact Nat.le_refl _ | (show _ + 1 ≤ 4294967296; omega) | (show _ + 1 ≤ 5864062014634; omega) | (dsimp only; omega) | (show (_ : Int) ≤ (_ : Int); omega) | (show _ < List.length _; simp only [List.length_set, List.length_append, List.length_take]; omega) | (show wantB _ _ = true; simp <;> omega) | (show (_ : Bool) = _; simp_all; done) | (exfalso; omega) | fail))
        refine ⟨Nat × Nat × CnS, fun x => ⟨[(1, .ptr 0 0), (8, .ptr 2 0), (85, .fz (.list (.list SpT)) m), (86, .fz int m.length), (87, .fz int x.1)], [.box [.fz (.list (.list SpT)) m], cnO bm x.2.1 x.2.2, .box [.ptr 1 0]]⟩, fun x => x.1 ≤ m.length ∧ MO spG x.2.1 x.2.2 ∧ ∀ p, gv x.2.2 p 0 = ((m.take x.1).flatten.count p : Nat), fun x => m.length - x.1, (0, 0, []), ⟨Nat.zero_le _, MO.nil, fun p => by simp [gv]⟩, Ent.sub rfl ?_, ?_⟩
        · (repeat' (first | exact trivial | exact rfl | refine And.intro ?_ ?_))
        rintro ⟨i, clk, S⟩ ⟨hi, hM, hC⟩
        have hi : i ≤ m.length := hi
        have hM : MO spG clk S := hM
        have hC : ∀ p, gv S p 0 = ((m.take i).flatten.count p : Nat) := hC
        show awp _ _ _ ⟨[(1, .ptr 0 0), (8, .ptr 2 0), (85, .fz (.list (.list SpT)) m), (86, .fz int m.length), (87, .fz int i)], [.box [.fz (.list (.list SpT)) m], cnO bm clk S, .box [.ptr 1 0]]⟩
        by_cases hil : i < m.length
        · obtain ⟨a, ha⟩ : ∃ a, Shp.arc m i = a := ⟨_, rfl⟩
          have hg := hat i
          have hal := hl4 i hil
          rw [ha] at hg hal
          have hfl : (m.take (i + 1)).flatten = (m.take i).flatten ++ a := by
            rw [List.take_add_one, List.getElem?_eq_getElem hil, List.flatten_append]
            have : m[i] = a := by rw [← ha]; unfold Shp.arc; rw [List.getD_eq_getElem?_getD, List.getElem?_eq_getElem hil]; rfl
            rw [this]; simp
          have hfn : (m.take i).flatten.length ≤ 10000 := by
            rw [List.length_flatten]
            have := Shp.tot_full (m := m) (i := i) (by omega)
            unfold Shp.tot at this
            have h2 : ((m.take m.length).map List.length).sum ≤ 4000 := htt
            omega
          obtain ⟨F, hF⟩ : ∃ F, (m.take i).flatten = F := ⟨_, rfl⟩
          rw [hF] at hC hfl hfn
          (repeat' (first | exact trivial | exact fun h => h | refine And.intro ?_ ?_ | (intro hb; try simp at hb) | omega | exact rfl | exact Nat.le_refl _ | (show _ + 1 ≤ 4294967296; omega) | (show _ + 1 ≤ 5864062014634; omega) | (dsimp only; omega) | (show (_ : Int) ≤ (_ : Int); omega) | (show _ < List.length _; simp only [List.length_set, List.length_append, List.length_take]; omega) | (show wantB _ _ = true; simp <;> omega) | (show (_ : Bool) = _; simp_all; done) | (exfalso; omega) | fail))
          rw [hg]
          (repeat' (first | exact trivial | exact fun h => h | refine And.intro ?_ ?_ | (intro hb; try simp at hb) | omega | exact rfl | exact Nat.le_refl _ | (show _ + 1 ≤ 4294967296; omega) | (show _ + 1 ≤ 5864062014634; omega) | (dsimp only; omega) | (show (_ : Int) ≤ (_ : Int); omega) | (show _ < List.length _; simp only [List.length_set, List.length_append, List.length_take]; omega) | (show wantB _ _ = true; simp <;> omega) | (show (_ : Bool) = _; simp_all; done) | (exfalso; omega) | fail))
          refine ⟨Nat × Nat × CnS, fun x => ⟨[(1, .ptr 0 0), (8, .ptr 2 0), (85, .fz (.list (.list SpT)) m), (86, .fz int m.length), (87, .fz int i), (91, .fz (.list SpT) a), (92, .fz int a.length), (93, .fz int x.1)], [.box [.fz (.list (.list SpT)) m], cnO bm x.2.1 x.2.2, .box [.ptr 1 0]]⟩, fun x => x.1 ≤ a.length ∧ MO spG x.2.1 x.2.2 ∧ ∀ p, gv x.2.2 p 0 = ((F ++ a.take x.1).count p : Nat), fun x => a.length - x.1, (0, clk, S), ⟨Nat.zero_le _, hM, fun p => by rw [List.take_zero, List.append_nil]; exact hC p⟩, Ent.sub rfl ?_, ?_⟩
          · (repeat' (first | exact trivial | exact rfl | refine And.intro ?_ ?_))
          rintro ⟨k, clk, S⟩ ⟨hk, hM, hC⟩
          have hk : k ≤ a.length := hk
          have hM : MO spG clk S := hM
          have hC : ∀ p, gv S p 0 = ((F ++ a.take k).count p : Nat) := hC
          show awp _ _ _ ⟨[(1, .ptr 0 0), (8, .ptr 2 0), (85, .fz (.list (.list SpT)) m), (86, .fz int m.length), (87, .fz int i), (91, .fz (.list SpT) a), (92, .fz int a.length), (93, .fz int k)], [.box [.fz (.list (.list SpT)) m], cnO bm clk S, .box [.ptr 1 0]]⟩
          by_cases hka : k < a.length
          · obtain ⟨p, hp⟩ : ∃ p, Shp.at_ a k = p := ⟨_, rfl⟩
            have hgp : List.getD a (Int.toNat (k : Int)) SpT.dft = p := hp
            have hpG : spG p := spG_of (by
              have := B.pl i k ⟨hil, by rw [ha]; exact hka⟩
              unfold Shp.pt at this
              rw [ha, hp] at this; exact this)
            have hpx : a[k] = p := by rw [← hp]; unfold Shp.at_; rw [List.getD_eq_getElem?_getD, List.getElem?_eq_getElem hka]; rfl
            have hgv : 0 ≤ gv S p 0 ∧ gv S p 0 ≤ 20000 := by
              rw [hC]
              have := List.count_le_length (a := p) (l := F ++ a.take k)
              rw [List.length_append, List.length_take] at this
              omega
            have hC2 : ∀ q, gv (pS S clk p (gv S p 0 + 1)) q 0 = ((F ++ a.take (k + 1)).count q : Nat) := fun q => by
              rw [gv_put hM, List.take_add_one, List.getElem?_eq_getElem hka, hpx]
              have h1 := hC q
              have h2 := hC p
              rw [List.count_append] at h1 h2 ⊢
              by_cases e : q = p
              · subst e
                rw [if_pos rfl, h1, List.count_append]
                simp
                omega
              · rw [if_neg e, h1, List.count_append]
                have : List.count q (some p).toList = 0 := by
                  rw [List.count_eq_zero]
                  simpa using e
                omega
            obtain ⟨v, hv⟩ : ∃ v, gv S p 0 = v := ⟨_, rfl⟩
            rw [hv] at hgv hC2
            (repeat' (first | exact trivial | exact fun h => h | refine And.intro ?_ ?_ | (intro hb; try simp at hb) | omega | exact rfl | exact Nat.le_refl _ | (show _ + 1 ≤ 4294967296; omega) | (show _ + 1 ≤ 5864062014634; omega) | (dsimp only; omega) | (show (_ : Int) ≤ (_ : Int); omega) | (show _ < List.length _; simp only [List.length_set, List.length_append, List.length_take]; omega) | (show wantB _ _ = true; simp <;> omega) | (show (_ : Bool) = _; simp_all; done) | (exfalso; omega) | fail))
            rw [hgp]
            (repeat' (first | exact trivial | exact fun h => h | refine And.intro ?_ ?_ | (intro hb; try simp at hb) | omega | exact rfl | exact Nat.le_refl _ | (show _ + 1 ≤ 4294967296; omega) | (show _ + 1 ≤ 5864062014634; omega) | (dsimp only; omega) | (show (_ : Int) ≤ (_ : Int); omega) | (show _ < List.length _; simp only [List.length_set, List.length_append, List.length_take]; omega) | (show wantB _ _ = true; simp <;> omega) | (show (_ : Bool) = _; simp_all; done) | (exfalso; omega) | fail))
            let A3 : List AO := [.box [.fz (.list (.list SpT)) m], cnO bm clk S, .box [.ptr 1 0], .box [.fz int p.1, .fz int p.2]]
            let A4 : List AO := [.box [.fz (.list (.list SpT)) m], cnO bm (cS S clk p) (uS S clk p 0), .box [.ptr 1 0], .box [.fz int p.1, .fz int p.2]]
            let A5 : List AO := [.box [.fz (.list (.list SpT)) m], cnO bm (cS S clk p) (pS S clk p (v + 1)), .box [.ptr 1 0], .box [.fz int p.1, .fz int p.2]]
            have hok : ∀ (clk' : Nat) (S' : CnS), OkA 4 [.box [.fz (.list (.list SpT)) m], cnO bm clk' S', .box [.ptr 1 0], .box [.fz int p.1, .fz int p.2]] := fun clk' S' o ho => by
              simp only [List.mem_cons, List.not_mem_nil, or_false] at ho
              rcases ho with rfl | rfl | rfl | rfl
              · rfl
              · exact cn_ok (bm := bm) (clk := clk')
              · rfl
              · rfl
            refine aRegion_open 0 (by decide +kernel) ?_
            (repeat' (first | exact trivial | exact fun h => h | refine And.intro ?_ ?_ | (intro hb; try simp at hb) | omega | exact rfl | exact Nat.le_refl _ | (show _ + 1 ≤ 4294967296; omega) | (show _ + 1 ≤ 5864062014634; omega) | (dsimp only; omega) | (show (_ : Int) ≤ (_ : Int); omega) | (show _ < List.length _; simp only [List.length_set, List.length_append, List.length_take]; omega) | (show wantB _ _ = true; simp <;> omega) | (show (_ : Bool) = _; simp_all; done) | (exfalso; omega) | refine aRegion_auto (by decide +kernel) ?_ | fail))
            refine eff_is (.fz int v) A3 ?_
            (repeat' (first | exact trivial | exact fun h => h | refine And.intro ?_ ?_ | (intro hb; try simp at hb) | omega | exact rfl | exact Nat.le_refl _ | (show _ + 1 ≤ 4294967296; omega) | (show _ + 1 ≤ 5864062014634; omega) | (dsimp only; omega) | (show (_ : Int) ≤ (_ : Int); omega) | (show _ < List.length _; simp only [List.length_set, List.length_append, List.length_take]; omega) | (show wantB _ _ = true; simp <;> omega) | (show (_ : Bool) = _; simp_all; done) | (exfalso; omega) | refine aRegion_auto (by decide +kernel) ?_ | fail))
            refine eff_is (.tup [.fz int v, .fz int (tS S clk p : Nat)]) A4 ?_
            (repeat' (first | exact trivial | exact fun h => h | refine And.intro ?_ ?_ | (intro hb; try simp at hb) | omega | exact rfl | exact Nat.le_refl _ | (show _ + 1 ≤ 4294967296; omega) | (show _ + 1 ≤ 5864062014634; omega) | (dsimp only; omega) | (show (_ : Int) ≤ (_ : Int); omega) | (show _ < List.length _; simp only [List.length_set, List.length_append, List.length_take]; omega) | (show wantB _ _ = true; simp <;> omega) | (show (_ : Bool) = _; simp_all; done) | (exfalso; omega) | refine aRegion_auto (by decide +kernel) ?_ | fail))
            refine eff_is .unk A5 ?_
            refine ⟨[(0, A3), (4, A3), (16, A4), (20, A4), (84, A5)], rfl, rfl, ?_, ?_⟩
            · (repeat' (first | refine And.intro ?_ ?_ | exact trivial | exact rfl | omega))
              · refine aact_lookG p (d := (0 : Int)) (tok := 1) (off := 0) (bm := bm) (clk := clk) (S := S) rfl rfl hM Tryd.underlying68 keyedS kvS_in spG_ok rel_kvS hpG zero_int ?_
                rw [hv]
                exact force_of _ _ _ (view_id (A := A3) (Nat.le_refl _) rfl (hok _ _))
              · refine aact_upG p (d := (0 : Int)) (tok := 1) (off := 0) (bm := bm) (clk := clk) (S := S) rfl rfl hM Tryd.underlying68 keyedS kvS_in spG_ok rel_kvS hpG zero_int ?_
                rw [hv]
                exact force_of _ _ _ (view_id (A := A4) (Nat.le_refl _) rfl (hok _ _))
              · refine aact_upG p (d := (0 : Int)) (tok := 1) (off := 0) (bm := bm) (clk := clk) (S := S) rfl rfl hM Tryd.underlying68 keyedS kvS_in spG_ok rel_kvS hpG zero_int ?_
                rw [hv]
                exact force_of _ _ _ (view_id (A := A4) (Nat.le_refl _) rfl (hok _ _))
              · refine aact_lookG p (d := (0 : Int)) (tok := 1) (off := 0) (bm := bm) (clk := cS S clk p) (S := uS S clk p 0) rfl rfl (hM.up hpG 0) Tryd.underlying68 keyedS kvS_in spG_ok rel_kvS hpG zero_int ?_
                rw [gv_up, hv]
                exact force_of _ _ _ (view_id (A := A4) (Nat.le_refl _) rfl (hok _ _))
              · refine aact_setG (a := p) (d := (0 : Int)) (v + 1) (tok := 1) (off := 0) (bm := bm) (clk := clk) (S := S) rfl rfl hM hpG (fun c w h => rel_int.1 h) rfl ?_
                exact force_of _ _ _ (view_id (A := A5) (Nat.le_refl _) rfl (hok _ _))
            · (repeat' (first | exact trivial | exact fun h => h | refine And.intro ?_ ?_ | (intro hb; try simp at hb) | omega | exact rfl | exact Nat.le_refl _ | (show _ + 1 ≤ 4294967296; omega) | (show _ + 1 ≤ 5864062014634; omega) | (dsimp only; omega) | (show (_ : Int) ≤ (_ : Int); omega) | (show _ < List.length _; simp only [List.length_set, List.length_append, List.length_take]; omega) | (show wantB _ _ = true; simp <;> omega) | (show (_ : Bool) = _; simp_all; done) | (exfalso; omega) | refine aRegion_auto (by decide +kernel) ?_ | fail))
              refine ⟨(k + 1, cS S clk p, pS S clk p (v + 1)), ⟨by show k + 1 ≤ a.length; omega, hM.put hpG _, hC2⟩, by show a.length - (k + 1) < a.length - k; omega, Ent.ren [0, 1, 2] rfl ?_ ?_⟩
              · (repeat' (first | exact trivial | exact rfl | refine And.intro ?_ ?_))
                · exact congrArg some (cn_same _).symm
                · exact cn_ok (bm := bm) (clk := cS S clk p)
              · (repeat' (first | exact trivial | exact rfl | refine And.intro ?_ ?_))
          · obtain rfl : k = a.length := by omega
            rw [List.take_length] at hC
            (repeat' (first | exact trivial | exact fun h => h | refine And.intro ?_ ?_ | (intro hb; try simp at hb) | omega | exact rfl | exact Nat.le_refl _ | (show _ + 1 ≤ 4294967296; omega) | (show _ + 1 ≤ 5864062014634; omega) | (dsimp only; omega) | (show (_ : Int) ≤ (_ : Int); omega) | (show _ < List.length _; simp only [List.length_set, List.length_append, List.length_take]; omega) | (show wantB _ _ = true; simp <;> omega) | (show (_ : Bool) = _; simp_all; done) | (exfalso; omega) | fail))
            refine ⟨(i + 1, clk, S), ⟨by show i + 1 ≤ m.length; omega, hM, fun p => by show gv S p 0 = ((m.take (i + 1)).flatten.count p : Nat); rw [hfl]; exact hC p⟩, by show m.length - (i + 1) < m.length - i; omega, Ent.sub rfl ?_⟩
            · (repeat' (first | exact trivial | exact rfl | refine And.intro ?_ ?_))
        · obtain rfl : i = m.length := by omega
          have hC : ∀ p, gv S p 0 = (m.flatten.count p : Nat) := fun p => by rw [hC, List.take_length]
          (repeat' (first | exact trivial | exact fun h => h | refine And.intro ?_ ?_ | (intro hb; try simp at hb) | omega | exact rfl | exact Nat.le_refl _ | (show _ + 1 ≤ 4294967296; omega) | (show _ + 1 ≤ 5864062014634; omega) | (dsimp only; omega) | (show (_ : Int) ≤ (_ : Int); omega) | (show _ < List.length _; simp only [List.length_set, List.length_append, List.length_take]; omega) | (show wantB _ _ = true; simp <;> omega) | (show (_ : Bool) = _; simp_all; done) | (exfalso; omega) | fail))
          refine ⟨Nat, fun i => ⟨[(1, .ptr 0 0), (8, .ptr 2 0), (106, .fz (.list (.list SpT)) m), (107, .fz int m.length), (108, .fz int i)], [.box [.fz (.list (.list SpT)) m], cnO bm clk S, .box [.ptr 1 0]]⟩, fun i => i ≤ m.length ∧ ∀ j, j < i → (Shp.inn (Shp.arc m j)).any (fun p => decide ((1 : Int) < (m.flatten.count p : Nat))) = false, fun i => m.length - i, 0, ⟨Nat.zero_le _, fun j h => absurd h (Nat.not_lt_zero _)⟩, Ent.sub rfl ?_, ?_⟩
          · (repeat' (first | exact trivial | exact rfl | refine And.intro ?_ ?_))
          intro i ⟨hi, hin⟩
          have hi : i ≤ m.length := hi
          have hin : ∀ j, j < i → (Shp.inn (Shp.arc m j)).any (fun p => decide ((1 : Int) < (m.flatten.count p : Nat))) = false := hin
          show awp _ _ _ ⟨[(1, .ptr 0 0), (8, .ptr 2 0), (106, .fz (.list (.list SpT)) m), (107, .fz int m.length), (108, .fz int i)], [.box [.fz (.list (.list SpT)) m], cnO bm clk S, .box [.ptr 1 0]]⟩
          by_cases hil : i < m.length
          · obtain ⟨a, ha⟩ : ∃ a, Shp.arc m i = a := ⟨_, rfl⟩
            have hg := hat i
            have hal := hl4 i hil
            have h2 := B.two i hil
            rw [ha] at hg hal h2
            (repeat' (first | exact trivial | exact fun h => h | refine And.intro ?_ ?_ | (intro hb; try simp at hb) | omega | exact rfl | exact Nat.le_refl _ | (show _ + 1 ≤ 4294967296; omega) | (show _ + 1 ≤ 5864062014634; omega) | (dsimp only; omega) | (show (_ : Int) ≤ (_ : Int); omega) | (show _ < List.length _; simp only [List.length_set, List.length_append, List.length_take]; omega) | (show wantB _ _ = true; simp <;> omega) | (show (_ : Bool) = _; simp_all; done) | (exfalso; omega) | fail))
            rw [hg]
            (repeat' (first | exact trivial | exact fun h => h | refine And.intro ?_ ?_ | (intro hb; try simp at hb) | omega | exact rfl | exact Nat.le_refl _ | (show _ + 1 ≤ 4294967296; omega) | (show _ + 1 ≤ 5864062014634; omega) | (dsimp only; omega) | (show (_ : Int) ≤ (_ : Int); omega) | (show _ < List.length _; simp only [List.length_set, List.length_append, List.length_take]; omega) | (show wantB _ _ = true; simp <;> omega) | (show (_ : Bool) = _; simp_all; done) | (exfalso; omega) | fail))
            any_goals (rw [hg]; omega)
            obtain ⟨w, hw⟩ : ∃ w, (Shp.inn a).any (fun p => decide ((1 : Int) < (m.flatten.count p : Nat))) = w := ⟨_, rfl⟩
            have hil2 := Shp.inn_len a
            refine acall_arg (containsV_lend _ m (Shp.inn a) bm clk S hM (fun p hp => ?_) (by omega) _ ?_) ?_
            · obtain ⟨t, ht, rfl⟩ := List.getElem_of_mem hp
              have hm : (Shp.inn a)[t] ∈ a := List.mem_of_mem_drop (List.mem_of_mem_take hp)
              obtain ⟨u, hu, e⟩ := List.getElem_of_mem hm
              rw [← e]
              refine spG_of ?_
              have := B.pl i u ⟨hil, by rw [ha]; exact hu⟩
              unfold Shp.pt Shp.at_ at this
              rw [ha, List.getD_eq_getElem?_getD, List.getElem?_eq_getElem hu] at this
              exact this
            · have hw2 : (Shp.inn a).any (fun p => decide (1 < gv S p 0)) = w := by
                rw [← hw]
                exact congrArg (fun f => (Shp.inn a).any f) (funext fun p => by rw [hC])
              rw [hw2]
              refine force_of _ _ _ ?_
              cases w with
              | true =>
                have hno : ¬ (Shp.noMeet m ∧ Shp.inOnce m) := fun ⟨_, h⟩ => by
                  have := Shp.inn_once.1 h i hil
                  rw [ha, hw] at this; cases this
                rw [Shp.vE_order hB hbad hno] at hK
                (repeat' (first | exact trivial | exact fun h => h | refine And.intro ?_ ?_ | (intro hb; try simp at hb) | omega | exact rfl | exact Nat.le_refl _ | (show _ + 1 ≤ 4294967296; omega) | (show _ + 1 ≤ 5864062014634; omega) | (dsimp only; omega) | (show (_ : Int) ≤ (_ : Int); omega) | (show _ < List.length _; simp only [List.length_set, List.length_append, List.length_take]; omega) | (show wantB _ _ = true; simp <;> omega) | (show (_ : Bool) = _; simp_all; done) | (exfalso; omega) | refine aRegion_auto (by decide +kernel) ?_ | refine ⟨_, _, REnt.drop ⟨rfl, rfl⟩, ?_⟩ | fail))
                exact hK
              | false =>
                (repeat' (first | exact trivial | exact fun h => h | refine And.intro ?_ ?_ | (intro hb; try simp at hb) | omega | exact rfl | exact Nat.le_refl _ | (show _ + 1 ≤ 4294967296; omega) | (show _ + 1 ≤ 5864062014634; omega) | (dsimp only; omega) | (show (_ : Int) ≤ (_ : Int); omega) | (show _ < List.length _; simp only [List.length_set, List.length_append, List.length_take]; omega) | (show wantB _ _ = true; simp <;> omega) | (show (_ : Bool) = _; simp_all; done) | (exfalso; omega) | fail))
                refine ⟨i + 1, ⟨by show i + 1 ≤ m.length; omega, fun j hj => ?_⟩, by show m.length - (i + 1) < m.length - i; omega, Ent.sub rfl ?_⟩
                · have hj : j < i + 1 := hj
                  by_cases c : j = i
                  · rw [c, ha]; exact hw
                  · exact hin j (by omega)
                · (repeat' (first | exact trivial | exact rfl | refine And.intro ?_ ?_))
            · refine congrArg (fun l => [AV.fz (.list SpT) l, .fn 38 [.ptr 2 0]]) (?_ : Shp.inn a = List.take ((((List.getD m (Int.toNat (i : Int)) SpT.list.dft).length : Int) - 1).toNat - (1 : Int).toNat) (List.drop (1 : Int).toNat (List.getD m (Int.toNat (i : Int)) SpT.list.dft)))
              rw [hg, show ((a.length : Int) - 1).toNat - (1 : Int).toNat = a.length - 2 by omega]
              rfl
          · obtain rfl : i = m.length := by omega
            have hio : Shp.inOnce m := Shp.inn_once.2 hin
            have hpl : ∀ x ∈ Shp.pcs m m.length, plB x.1 = true ∧ plB x.2.1 = true := fun x hx => by
              obtain ⟨j, n, a1, a2, rfl⟩ := (Shp.mem_pcs m.length).1 hx
              exact ⟨B.pl j n ⟨a1, by omega⟩, B.pl j (n + 1) ⟨a1, a2⟩⟩
            have hpn := Shp.pcs_no (m := m)
            have hpb := Shp.pcs_len (m := m) B.len m.length (Nat.le_refl _)
            have hnm : (¬ Shp.noMeet m) → K (.fz .raw (er E 7)) [] := fun h => by
              rw [Shp.vE_order hB hbad (fun h2 => h h2.1)] at hK
              exact hK
            have hym : Shp.noMeet m → K (.fz .raw (er E 0)) [] := fun h => by
              rw [Shp.vE_ok hB hbad ⟨h, hio⟩] at hK
              exact hK
            (repeat' (first | exact trivial | exact fun h => h | refine And.intro ?_ ?_ | (intro hb; try simp at hb) | omega | exact rfl | exact Nat.le_refl _ | (show _ + 1 ≤ 4294967296; omega) | (show _ + 1 ≤ 5864062014634; omega) | (dsimp only; omega) | (show (_ : Int) ≤ (_ : Int); omega) | (show _ < List.length _; simp only [List.length_set, List.length_append, List.length_take]; omega) | (show wantB _ _ = true; simp <;> omega) | (show (_ : Bool) = _; simp_all; done) | (exfalso; omega) | fail))
            refine acall_conv [.dat MpT] _ _ _ rfl trivial (acall_frame0 rfl (pieces_any _ m B _ ?_))
            obtain ⟨L, hL⟩ : ∃ L, Shp.pcs m m.length = L := ⟨_, rfl⟩
            rw [hL] at hpl hpn hpb ⊢
            have hLL : L.length ≤ 600000 := by omega
            (repeat' (first | exact trivial | exact fun h => h | refine And.intro ?_ ?_ | (intro hb; try simp at hb) | omega | exact rfl | exact Nat.le_refl _ | (show _ + 1 ≤ 4294967296; omega) | (show _ + 1 ≤ 5864062014634; omega) | (dsimp only; omega) | (show (_ : Int) ≤ (_ : Int); omega) | (show _ < List.length _; simp only [List.length_set, List.length_append, List.length_take]; omega) | (show wantB _ _ = true; simp <;> omega) | (show (_ : Bool) = _; simp_all; done) | (exfalso; omega) | fail))
            refine ⟨Nat, fun i => ⟨[(15, .fz (.list PcT) L), (123, .fz (.list PcT) L), (124, .fz int L.length), (125, .fz int i)], []⟩, fun i => i ≤ L.length ∧ ∀ j, j < i → ∀ k, j < k → k < L.length → Shp.apP (L.getD j PcT.dft) (L.getD k PcT.dft), fun i => L.length - i, 0, ⟨Nat.zero_le _, fun j h => absurd h (Nat.not_lt_zero _)⟩, Ent.ren [] rfl trivial ?_, ?_⟩
            · (repeat' (first | exact trivial | exact rfl | refine And.intro ?_ ?_))
            intro i ⟨hi, hap⟩
            have hi : i ≤ L.length := hi
            have hap : ∀ j, j < i → ∀ k, j < k → k < L.length → Shp.apP (L.getD j PcT.dft) (L.getD k PcT.dft) := hap
            show awp _ _ _ ⟨[(15, .fz (.list PcT) L), (123, .fz (.list PcT) L), (124, .fz int L.length), (125, .fz int i)], []⟩
            by_cases hil : i < L.length
            · obtain ⟨x, hx⟩ : ∃ x, List.getD L i PcT.dft = x := ⟨_, rfl⟩
              have hgx : List.getD L (Int.toNat (i : Int)) PcT.dft = x := hx
              (repeat' (first | exact trivial | exact fun h => h | refine And.intro ?_ ?_ | (intro hb; try simp at hb) | omega | exact rfl | exact Nat.le_refl _ | (show _ + 1 ≤ 4294967296; omega) | (show _ + 1 ≤ 5864062014634; omega) | (dsimp only; omega) | (show (_ : Int) ≤ (_ : Int); omega) | (show _ < List.length _; simp only [List.length_set, List.length_append, List.length_take]; omega) | (show wantB _ _ = true; simp <;> omega) | (show (_ : Bool) = _; simp_all; done) | (exfalso; omega) | fail))
              rw [hgx]
              (repeat' (first | exact trivial | exact fun h => h | refine And.intro ?_ ?_ | (intro hb; try simp at hb) | omega | exact rfl | exact Nat.le_refl _ | (show _ + 1 ≤ 4294967296; omega) | (show _ + 1 ≤ 5864062014634; omega) | (dsimp only; omega) | (show (_ : Int) ≤ (_ : Int); omega) | (show _ < List.length _; simp only [List.length_set, List.length_append, List.length_take]; omega) | (show wantB _ _ = true; simp <;> omega) | (show (_ : Bool) = _; simp_all; done) | (exfalso; omega) | fail))
              any_goals (first | exact Int.le_refl _ | (show (_ : Int) ≤ ((List.length L : Nat) : Int); omega))
              obtain ⟨R, hR⟩ : ∃ R, R = L.drop (i + 1) := ⟨_, rfl⟩
              have hRl : R.length = L.length - (i + 1) := by rw [hR, List.length_drop]
              refine ⟨Nat, fun k => ⟨[(15, .fz (.list PcT) L), (17, .ptr 0 0), (123, .fz (.list PcT) L), (124, .fz int L.length), (125, .fz int i), (133, .fz (.list PcT) R), (134, .fz int R.length), (135, .fz int k)], [.box [.fz int x.1.1, .fz int x.1.2, .fz int x.2.1.1, .fz int x.2.1.2, .fz int x.2.2.1, .fz int x.2.2.2]]⟩, fun k => k ≤ R.length ∧ ∀ j, j < k → Shp.apP x (R.getD j PcT.dft), fun k => R.length - k, 0, ⟨Nat.zero_le _, fun j h => absurd h (Nat.not_lt_zero _)⟩, Ent.sub ?_ ?_, ?_⟩
              · exact congrArg (fun x : Shp.Pc => [AO.box [.fz int x.1.1, .fz int x.1.2, .fz int x.2.1.1, .fz int x.2.1.2, .fz int x.2.2.1, .fz int x.2.2.2]]) hgx
              · have hRe : List.take (((L.length : Nat) : Int).toNat - ((i : Int) + 1).toNat) (List.drop ((i : Int) + 1).toNat L) = R := by
                  rw [hR, show ((i : Int) + 1).toNat = i + 1 by omega, Int.toNat_natCast]
                  exact List.take_of_length_le (by rw [List.length_drop]; exact Nat.le_refl _)
                (repeat' (first | exact trivial | exact rfl | refine And.intro ?_ ?_))
                · exact congrArg (fun l => AV.fz (.list PcT) l) hRe
                · exact congrArg (fun l : List Shp.Pc => AV.fz int l.length) hRe
              intro k ⟨hk, hak⟩
              have hk : k ≤ R.length := hk
              have hak : ∀ j, j < k → Shp.apP x (R.getD j PcT.dft) := hak
              show awp _ _ _ ⟨[(15, .fz (.list PcT) L), (17, .ptr 0 0), (123, .fz (.list PcT) L), (124, .fz int L.length), (125, .fz int i), (133, .fz (.list PcT) R), (134, .fz int R.length), (135, .fz int k)], [.box [.fz int x.1.1, .fz int x.1.2, .fz int x.2.1.1, .fz int x.2.1.2, .fz int x.2.2.1, .fz int x.2.2.2]]⟩
              have hRg : ∀ j, R.getD j PcT.dft = L.getD (i + 1 + j) PcT.dft := fun j => by
                rw [hR, List.getD_eq_getElem?_getD, List.getD_eq_getElem?_getD, List.getElem?_drop]
              by_cases hkR : k < R.length
              · obtain ⟨y, hy⟩ : ∃ y, List.getD R k PcT.dft = y := ⟨_, rfl⟩
                have hgy : List.getD R (Int.toNat (k : Int)) PcT.dft = y := hy
                have mem : ∀ j (hj : j < L.length), L.getD j PcT.dft ∈ L := fun j hj => by
                  rw [List.getD_eq_getElem?_getD, List.getElem?_eq_getElem hj]; exact List.getElem_mem hj
                have px := hpl x (hx ▸ mem i hil)
                have py := hpl y (by rw [← hy, hRg]; exact mem _ (by omega))
                obtain ⟨w, hw⟩ : ∃ w, Shp.meet x.1 x.2.1 y.1 y.2.1 = w := ⟨_, rfl⟩
                (repeat' (first | exact trivial | exact fun h => h | refine And.intro ?_ ?_ | (intro hb; try simp at hb) | omega | exact rfl | exact Nat.le_refl _ | (show _ + 1 ≤ 4294967296; omega) | (show _ + 1 ≤ 5864062014634; omega) | (dsimp only; omega) | (show (_ : Int) ≤ (_ : Int); omega) | (show _ < List.length _; simp only [List.length_set, List.length_append, List.length_take]; omega) | (show wantB _ _ = true; simp <;> omega) | (show (_ : Bool) = _; simp_all; done) | (exfalso; omega) | fail))
                rw [hgy]
                (repeat' (first | exact trivial | exact fun h => h | refine And.intro ?_ ?_ | (intro hb; try simp at hb) | omega | exact rfl | exact Nat.le_refl _ | (show _ + 1 ≤ 4294967296; omega) | (show _ + 1 ≤ 5864062014634; omega) | (dsimp only; omega) | (show (_ : Int) ≤ (_ : Int); omega) | (show _ < List.length _; simp only [List.length_set, List.length_append, List.length_take]; omega) | (show wantB _ _ = true; simp <;> omega) | (show (_ : Bool) = _; simp_all; done) | (exfalso; omega) | fail))
                refine acall_conv [.dat SpT, .dat SpT, .dat SpT, .dat SpT] _ _ _ rfl trivial (acall_frame0 rfl (meet_any _ x.1 x.2.1 y.1 y.2.1 px.1 px.2 py.1 py.2 _ ?_))
                rw [hw]
                cases w with
                | true =>
                  have hK7 := hnm fun h => by
                    have h2 := List.pairwise_iff_getElem.1 (hpn.2 h) i (i + 1 + k) hil (by omega) (by omega)
                    unfold Shp.apP at h2
                    have e1 : L[i] = x := by rw [← hx, List.getD_eq_getElem?_getD, List.getElem?_eq_getElem hil]; rfl
                    have e2 : L[i + 1 + k]'(by omega) = y := by rw [← hy, hRg, List.getD_eq_getElem?_getD, List.getElem?_eq_getElem (by omega)]; rfl
                    rw [e1, e2, hw] at h2; cases h2
                  (repeat' (first | exact trivial | exact fun h => h | refine And.intro ?_ ?_ | (intro hb; try simp at hb) | omega | exact rfl | exact Nat.le_refl _ | (show _ + 1 ≤ 4294967296; omega) | (show _ + 1 ≤ 5864062014634; omega) | (dsimp only; omega) | (show (_ : Int) ≤ (_ : Int); omega) | (show _ < List.length _; simp only [List.length_set, List.length_append, List.length_take]; omega) | (show wantB _ _ = true; simp <;> omega) | (show (_ : Bool) = _; simp_all; done) | (exfalso; omega) | refine aRegion_auto (by decide +kernel) ?_ | refine ⟨_, _, REnt.drop ⟨rfl, rfl⟩, ?_⟩ | fail))
                  exact hK7
                | false =>
                  (repeat' (first | exact trivial | exact fun h => h | refine And.intro ?_ ?_ | (intro hb; try simp at hb) | omega | exact rfl | exact Nat.le_refl _ | (show _ + 1 ≤ 4294967296; omega) | (show _ + 1 ≤ 5864062014634; omega) | (dsimp only; omega) | (show (_ : Int) ≤ (_ : Int); omega) | (show _ < List.length _; simp only [List.length_set, List.length_append, List.length_take]; omega) | (show wantB _ _ = true; simp <;> omega) | (show (_ : Bool) = _; simp_all; done) | (exfalso; omega) | fail))
                  refine ⟨k + 1, ⟨by show k + 1 ≤ R.length; omega, fun j hj => ?_⟩, by show R.length - (k + 1) < R.length - k; omega, Ent.ren [0] rfl ?_ ?_⟩
                  · have hj : j < k + 1 := hj
                    by_cases c : j = k
                    · rw [c, hy]; exact hw
                    · exact hak j (by omega)
                  · (repeat' (first | exact trivial | exact rfl | refine And.intro ?_ ?_))
                  · (repeat' (first | exact trivial | exact rfl | refine And.intro ?_ ?_))
              · obtain rfl : k = R.length := by omega
                (repeat' (first | exact trivial | exact fun h => h | refine And.intro ?_ ?_ | (intro hb; try simp at hb) | omega | exact rfl | exact Nat.le_refl _ | (show _ + 1 ≤ 4294967296; omega) | (show _ + 1 ≤ 5864062014634; omega) | (dsimp only; omega) | (show (_ : Int) ≤ (_ : Int); omega) | (show _ < List.length _; simp only [List.length_set, List.length_append, List.length_take]; omega) | (show wantB _ _ = true; simp <;> omega) | (show (_ : Bool) = _; simp_all; done) | (exfalso; omega) | fail))
                refine ⟨i + 1, ⟨by show i + 1 ≤ L.length; omega, fun j hj q hq hql => ?_⟩, by show L.length - (i + 1) < L.length - i; omega, Ent.ren [] rfl trivial ?_⟩
                · have hj : j < i + 1 := hj
                  by_cases c : j = i
                  · rw [c, hx]
                    have := hak (q - (i + 1)) (by omega)
                    rw [hRg, show i + 1 + (q - (i + 1)) = q by omega] at this
                    exact this
                  · exact hap j (by omega) q hq hql
                · (repeat' (first | exact trivial | exact rfl | refine And.intro ?_ ?_))
            · obtain rfl : i = L.length := by omega
              have hK0 := hym (hpn.1 (List.pairwise_iff_getElem.2 fun j k hj hk hjk => by
                have := hap j hj k hjk hk
                rwa [List.getD_eq_getElem?_getD, List.getD_eq_getElem?_getD, List.getElem?_eq_getElem hj, List.getElem?_eq_getElem hk] at this))
              (repeat' (first | exact trivial | exact fun h => h | refine And.intro ?_ ?_ | (intro hb; try simp at hb) | omega | exact rfl | exact Nat.le_refl _ | (show _ + 1 ≤ 4294967296; omega) | (show _ + 1 ≤ 5864062014634; omega) | (dsimp only; omega) | (show (_ : Int) ≤ (_ : Int); omega) | (show _ < List.length _; simp only [List.length_set, List.length_append, List.length_take]; omega) | (show wantB _ _ = true; simp <;> omega) | (show (_ : Bool) = _; simp_all; done) | (exfalso; omega) | refine aRegion_auto (by decide +kernel) ?_ | refine ⟨_, _, REnt.drop ⟨rfl, rfl⟩, ?_⟩ | fail))
              exact hK0
end Go.Proofs.YtcfalmdfohphoaaDoor
/-
  Which maps are right, told by the document.
-/
namespace Go.Proofs.YtcfalmdfohphoaaDoor
open Go Go.Ab
set_option maxRecDepth 100000
set_option maxHeartbeats 4000000 in
theorem mapError_any (G : List (Nat × Value)) (m : Shp.Arcs) (hl : m.length ≤ 1000000000000000) (hlen : ∀ i, i < m.length → (Shp.arc m i).length ≤ 8796093022208) (K : AV → List AO → Prop) (hK : K (.fz int (Shp.vE ngB m : Nat)) []) : ACall Tryd.prog G 9 [.fptr MpT m] [] K := by
  have hat : ∀ i : Nat, List.getD m (Int.toNat (i : Int)) SpT.list.dft = Shp.arc m i := fun i => rfl
  refine acall_mk (E := envAt G 108 0) (envOk _ _ _) Tryd.func9 rfl rfl rfl rfl rfl ?_
  (repeat' (first | exact trivial | exact fun h => h | refine And.intro ?_ ?_ | (intro hb; try simp at hb) | omega | exact rfl | exact Nat.le_refl _ | (show _ + 1 ≤ 4294967296; omega) | (show _ + 1 ≤ 5864062014634; omega) | (dsimp only; omega) | (show (_ : Int) ≤ (_ : Int); omega) | (show _ < List.length _; simp only [List.length_set, List.length_append, List.length_take]; omega) | (show wantB _ _ = true; simp <;> omega) | (show (_ : Bool) = _; simp_all; done) | (exfalso; omega) | refine aRegion_auto (by decide +kernel) ?_ | fail))
  refine ⟨Nat, fun i => ⟨[(0, .fptr MpT m), (3, .fz int (wr (Shp.tot m i))), (4, .fz int i), (1000003, .unk)], []⟩, fun i => i ≤ m.length, fun i => m.length - i, 0, Nat.zero_le _, Ent.sub rfl ?_, ?_⟩
  · (repeat' (first | exact trivial | exact rfl | refine And.intro ?_ ?_))
  intro i hi
  have hi : i ≤ m.length := hi
  have htf := Shp.tot_full hi
  obtain ⟨n, hn⟩ : ∃ n, Shp.tot m i = n := ⟨_, rfl⟩
  show awp _ _ _ ⟨[(0, .fptr MpT m), (3, .fz int (wr (Shp.tot m i))), (4, .fz int i), (1000003, .unk)], []⟩
  rw [hn] at htf ⊢
  by_cases hil : i < m.length
  · obtain ⟨a, ha⟩ : ∃ a, Shp.arc m i = a := ⟨_, rfl⟩
    have hg := hat i
    have hal := hlen i hil
    have hnx := Shp.tot_next hil
    rw [ha] at hg hal hnx
    rw [hn] at hnx
    (repeat' (first | exact trivial | exact fun h => h | refine And.intro ?_ ?_ | (intro hb; try simp at hb) | omega | exact rfl | exact Nat.le_refl _ | (show _ + 1 ≤ 4294967296; omega) | (show _ + 1 ≤ 5864062014634; omega) | (dsimp only; omega) | (show (_ : Int) ≤ (_ : Int); omega) | (show _ < List.length _; simp only [List.length_set, List.length_append, List.length_take]; omega) | (show wantB _ _ = true; simp <;> omega) | (show (_ : Bool) = _; simp_all; done) | (exfalso; omega) | refine aRegion_auto (by decide +kernel) ?_ | fail))
    rw [hg]
    (repeat' (first | exact trivial | exact fun h => h | refine And.intro ?_ ?_ | (intro hb; try simp at hb) | omega | exact rfl | exact Nat.le_refl _ | (show _ + 1 ≤ 4294967296; omega) | (show _ + 1 ≤ 5864062014634; omega) | (dsimp only; omega) | (show (_ : Int) ≤ (_ : Int); omega) | (show _ < List.length _; simp only [List.length_set, List.length_append, List.length_take]; omega) | (show wantB _ _ = true; simp <;> omega) | (show (_ : Bool) = _; simp_all; done) | (exfalso; omega) | refine aRegion_auto (by decide +kernel) ?_ | fail))
    refine aact_addW (a := wr n) (b := (a.length : Int)) rfl rfl ?_
    rw [wr_add, ← hnx]
    (repeat' (first | exact trivial | exact fun h => h | refine And.intro ?_ ?_ | (intro hb; try simp at hb) | omega | exact rfl | exact Nat.le_refl _ | (show _ + 1 ≤ 4294967296; omega) | (show _ + 1 ≤ 5864062014634; omega) | (dsimp only; omega) | (show (_ : Int) ≤ (_ : Int); omega) | (show _ < List.length _; simp only [List.length_set, List.length_append, List.length_take]; omega) | (show wantB _ _ = true; simp <;> omega) | (show (_ : Bool) = _; simp_all; done) | (exfalso; omega) | refine aRegion_auto (by decide +kernel) ?_ | fail))
    refine aact_addW (a := (i : Int)) (b := 1) rfl rfl ?_
    rw [show IntKind.i64.wrap ((i : Int) + 1) = (i : Int) + 1 from I64.wrap (by unfold I64; omega)]
    (repeat' (first | exact trivial | exact fun h => h | refine And.intro ?_ ?_ | (intro hb; try simp at hb) | omega | exact rfl | exact Nat.le_refl _ | (show _ + 1 ≤ 4294967296; omega) | (show _ + 1 ≤ 5864062014634; omega) | (dsimp only; omega) | (show (_ : Int) ≤ (_ : Int); omega) | (show _ < List.length _; simp only [List.length_set, List.length_append, List.length_take]; omega) | (show wantB _ _ = true; simp <;> omega) | (show (_ : Bool) = _; simp_all; done) | (exfalso; omega) | refine aRegion_auto (by decide +kernel) ?_ | fail))
    refine ⟨i + 1, by show i + 1 ≤ m.length; omega, by show m.length - (i + 1) < m.length - i; omega, Ent.sub rfl ?_⟩
    · (repeat' (first | exact trivial | exact rfl | refine And.intro ?_ ?_))
  · obtain rfl : i = m.length := by omega
    by_cases hB : 60 < m.length ∨ 4000 < Shp.tot m m.length
    · have e := Shp.vE_bound (g := ngB) hB
      rw [e] at hK
      by_cases h60 : 60 < m.length
      · (repeat' (first | exact trivial | exact fun h => h | refine And.intro ?_ ?_ | (intro hb; try simp at hb) | omega | exact rfl | exact Nat.le_refl _ | (show _ + 1 ≤ 4294967296; omega) | (show _ + 1 ≤ 5864062014634; omega) | (dsimp only; omega) | (show (_ : Int) ≤ (_ : Int); omega) | (show _ < List.length _; simp only [List.length_set, List.length_append, List.length_take]; omega) | (show wantB _ _ = true; simp <;> omega) | (show (_ : Bool) = _; simp_all; done) | (exfalso; omega) | refine aRegion_auto (by decide +kernel) ?_ | refine ⟨_, _, REnt.drop ⟨rfl, rfl⟩, ?_⟩ | fail))
        exact hK
      · have hs := Shp.tot_wr hlen (by omega)
        rw [hn] at hB hs
        have hB := hB.resolve_left h60
        rw [hs]
        (repeat' (first | exact trivial | exact fun h => h | refine And.intro ?_ ?_ | (intro hb; try simp at hb) | omega | exact rfl | exact Nat.le_refl _ | (show _ + 1 ≤ 4294967296; omega) | (show _ + 1 ≤ 5864062014634; omega) | (dsimp only; omega) | (show (_ : Int) ≤ (_ : Int); omega) | (show _ < List.length _; simp only [List.length_set, List.length_append, List.length_take]; omega) | (show wantB _ _ = true; simp <;> omega) | (show (_ : Bool) = _; simp_all; done) | (exfalso; omega) | refine aRegion_auto (by decide +kernel) ?_ | refine ⟨_, _, REnt.drop ⟨rfl, rfl⟩, ?_⟩ | fail))
        exact hK
    · have hfew : m.length ≤ 60 := by omega
      have htt : Shp.tot m m.length ≤ 4000 := by omega
      have hl4 : ∀ i, i < m.length → (Shp.arc m i).length ≤ 4000 := fun i hi => by have := Shp.len_tot hi; omega
      have hs := Shp.tot_wr hlen (by omega)
      rw [hn] at hs htt
      rw [hs]
      (repeat' (first | exact trivial | exact fun h => h | refine And.intro ?_ ?_ | (intro hb; try simp at hb) | omega | exact rfl | exact Nat.le_refl _ | (show _ + 1 ≤ 4294967296; omega) | (show _ + 1 ≤ 5864062014634; omega) | (dsimp only; omega) | (show (_ : Int) ≤ (_ : Int); omega) | (show _ < List.length _; simp only [List.length_set, List.length_append, List.length_take]; omega) | (show wantB _ _ = true; simp <;> omega) | (show (_ : Bool) = _; simp_all; done) | (exfalso; omega) | refine aRegion_auto (by decide +kernel) ?_ | fail))
      rw [← hn] at htt
      refine ⟨Nat, fun i => ⟨[(0, .fptr MpT m), (5, .fz int i)], []⟩, fun i => i ≤ m.length ∧ ∀ j, j < i → Shp.badA ngB (Shp.arc m j) = false, fun i => m.length - i, 0, ⟨Nat.zero_le _, fun j h => absurd h (Nat.not_lt_zero _)⟩, Ent.sub rfl ?_, ?_⟩
      · (repeat' (first | exact trivial | exact rfl | refine And.intro ?_ ?_))
      intro i ⟨hi, hbad⟩
      have hi : i ≤ m.length := hi
      have hbad : ∀ j, j < i → Shp.badA ngB (Shp.arc m j) = false := hbad
      show awp _ _ _ ⟨[(0, .fptr MpT m), (5, .fz int i)], []⟩
      by_cases hil : i < m.length
      · obtain ⟨a, ha⟩ : ∃ a, Shp.arc m i = a := ⟨_, rfl⟩
        have hg := hat i
        have hal := hl4 i hil
        rw [ha] at hg hal
        have hgo : Shp.badA ngB a = false → ∀ j, j < i + 1 → Shp.badA ngB (Shp.arc m j) = false := fun h j hj => by
          by_cases c : j = i
          · rw [c, ha]; exact h
          · exact hbad j (by omega)
        have hno : (Shp.badA ngB a = false → False) → K (.fz int 3) [] := fun h => by
          rw [Shp.vE_shape hB ⟨i, hil, by rw [ha]; cases c : Shp.badA ngB a with | true => rfl | false => exact (h c).elim⟩] at hK
          exact hK
        have hiff := Shp.badA_iff ngB a
        (repeat' (first | exact trivial | exact fun h => h | refine And.intro ?_ ?_ | (intro hb; try simp at hb) | omega | exact rfl | exact Nat.le_refl _ | (show _ + 1 ≤ 4294967296; omega) | (show _ + 1 ≤ 5864062014634; omega) | (dsimp only; omega) | (show (_ : Int) ≤ (_ : Int); omega) | (show _ < List.length _; simp only [List.length_set, List.length_append, List.length_take]; omega) | (show wantB _ _ = true; simp <;> omega) | (show (_ : Bool) = _; simp_all; done) | (exfalso; omega) | fail))
        rw [hg]
        (repeat' (first | exact trivial | exact fun h => h | refine And.intro ?_ ?_ | (intro hb; try simp at hb) | omega | exact rfl | exact Nat.le_refl _ | (show _ + 1 ≤ 4294967296; omega) | (show _ + 1 ≤ 5864062014634; omega) | (dsimp only; omega) | (show (_ : Int) ≤ (_ : Int); omega) | (show _ < List.length _; simp only [List.length_set, List.length_append, List.length_take]; omega) | (show wantB _ _ = true; simp <;> omega) | (show (_ : Bool) = _; simp_all; done) | (exfalso; omega) | fail))
        by_cases h2 : a.length < 2
        · have hK3 := hno fun h => by have := (hiff.1 h).1; omega
          (repeat' (first | exact trivial | exact fun h => h | refine And.intro ?_ ?_ | (intro hb; try simp at hb) | omega | exact rfl | exact Nat.le_refl _ | (show _ + 1 ≤ 4294967296; omega) | (show _ + 1 ≤ 5864062014634; omega) | (dsimp only; omega) | (show (_ : Int) ≤ (_ : Int); omega) | (show _ < List.length _; simp only [List.length_set, List.length_append, List.length_take]; omega) | (show wantB _ _ = true; simp <;> omega) | (show (_ : Bool) = _; simp_all; done) | (exfalso; omega) | refine aRegion_auto (by decide +kernel) ?_ | refine ⟨_, _, REnt.drop ⟨rfl, rfl⟩, ?_⟩ | fail))
          all_goals first | exact hK3 | trace_state
        · have hne : a ≠ [] := fun e => h2 (by rw [e]; exact (by decide : 0 < 2))
          have hq : eqL [(a[0]?.getD SpT.dft).1, (a[0]?.getD SpT.dft).2] [(a[a.length - 1]?.getD SpT.dft).1, (a[a.length - 1]?.getD SpT.dft).2] = decide (Shp.at_ a 0 = Shp.at_ a (a.length - 1)) := by
            rw [at_q, at_q]
            exact eqS _ _
          (repeat' (first | exact trivial | exact fun h => h | refine And.intro ?_ ?_ | (intro hb; try simp at hb) | omega | exact rfl | exact Nat.le_refl _ | (show _ + 1 ≤ 4294967296; omega) | (show _ + 1 ≤ 5864062014634; omega) | (dsimp only; omega) | (show (_ : Int) ≤ (_ : Int); omega) | (show _ < List.length _; simp only [List.length_set, List.length_append, List.length_take]; omega) | (show wantB _ _ = true; simp <;> omega) | (show (_ : Bool) = _; simp_all; done) | (exfalso; omega) | refine aRegion_auto (by decide +kernel) ?_ | fail))
          · have hK3 := hno fun h => by
              rcases hb with hb | ⟨hb, h4⟩
              · omega
              · rw [hq] at hb
                exact (hiff.1 h).2.2.1 ⟨of_decide_eq_true hb, by omega⟩
            (repeat' (first | exact trivial | exact fun h => h | refine And.intro ?_ ?_ | (intro hb; try simp at hb) | omega | exact rfl | exact Nat.le_refl _ | (show _ + 1 ≤ 4294967296; omega) | (show _ + 1 ≤ 5864062014634; omega) | (dsimp only; omega) | (show (_ : Int) ≤ (_ : Int); omega) | (show _ < List.length _; simp only [List.length_set, List.length_append, List.length_take]; omega) | (show wantB _ _ = true; simp <;> omega) | (show (_ : Bool) = _; simp_all; done) | (exfalso; omega) | refine aRegion_auto (by decide +kernel) ?_ | refine ⟨_, _, REnt.drop ⟨rfl, rfl⟩, ?_⟩ | fail))
            exact hK3
          · have hcl : ¬ (Shp.at_ a 0 = Shp.at_ a (a.length - 1) ∧ a.length < 4) := fun ⟨e1, e2⟩ => by
              rw [hq] at hb
              have := hb.2 (decide_eq_true e1)
              omega
            clear hb
            (repeat' (first | exact trivial | exact fun h => h | refine And.intro ?_ ?_ | (intro hb; try simp at hb) | omega | exact rfl | exact Nat.le_refl _ | (show _ + 1 ≤ 4294967296; omega) | (show _ + 1 ≤ 5864062014634; omega) | (dsimp only; omega) | (show (_ : Int) ≤ (_ : Int); omega) | (show _ < List.length _; simp only [List.length_set, List.length_append, List.length_take]; omega) | (show wantB _ _ = true; simp <;> omega) | (show (_ : Bool) = _; simp_all; done) | (exfalso; omega) | refine aRegion_auto (by decide +kernel) ?_ | fail))
            refine ⟨Nat, fun k => ⟨[(0, .fptr MpT m), (5, .fz int i), (6, .fz (.list SpT) a), (7, .fz int k)], []⟩, fun k => k ≤ a.length ∧ (∀ t, t < k → plB (Shp.at_ a t) = true) ∧ ∀ t, t + 1 < k → Shp.at_ a t ≠ Shp.at_ a (t + 1), fun k => a.length - k, 0, ⟨Nat.zero_le _, fun t h => absurd h (Nat.not_lt_zero _), fun t h => absurd h (Nat.not_lt_zero _)⟩, Ent.sub rfl ?_, ?_⟩
            · (repeat' (first | exact trivial | exact rfl | refine And.intro ?_ ?_))
            intro k ⟨hk, hp, hs⟩
            have hk : k ≤ a.length := hk
            have hp : ∀ t, t < k → plB (Shp.at_ a t) = true := hp
            have hs : ∀ t, t + 1 < k → Shp.at_ a t ≠ Shp.at_ a (t + 1) := hs
            show awp _ _ _ ⟨[(0, .fptr MpT m), (5, .fz int i), (6, .fz (.list SpT) a), (7, .fz int k)], []⟩
            by_cases hka : k < a.length
            · obtain ⟨x, hx⟩ : ∃ x, Shp.at_ a k = x := ⟨_, rfl⟩
              have hgx : List.getD a (Int.toNat (k : Int)) SpT.dft = x := hx
              obtain ⟨ok, hok⟩ : ∃ ok, plB x = ok := ⟨_, rfl⟩
              (repeat' (first | exact trivial | exact fun h => h | refine And.intro ?_ ?_ | (intro hb; try simp at hb) | omega | exact rfl | exact Nat.le_refl _ | (show _ + 1 ≤ 4294967296; omega) | (show _ + 1 ≤ 5864062014634; omega) | (dsimp only; omega) | (show (_ : Int) ≤ (_ : Int); omega) | (show _ < List.length _; simp only [List.length_set, List.length_append, List.length_take]; omega) | (show wantB _ _ = true; simp <;> omega) | (show (_ : Bool) = _; simp_all; done) | (exfalso; omega) | refine aRegion_auto (by decide +kernel) ?_ | fail))
              rw [hgx]
              refine acall_frame0 rfl (isPlace_any _ x _ ?_)
              rw [hok]
              cases ok with
              | false =>
                have hK3 := hno fun h => by
                  have := (hiff.1 h).2.1 k hka
                  unfold ngB at this
                  rw [hx, hok] at this; cases this
                (repeat' (first | exact trivial | exact fun h => h | refine And.intro ?_ ?_ | (intro hb; try simp at hb) | omega | exact rfl | exact Nat.le_refl _ | (show _ + 1 ≤ 4294967296; omega) | (show _ + 1 ≤ 5864062014634; omega) | (dsimp only; omega) | (show (_ : Int) ≤ (_ : Int); omega) | (show _ < List.length _; simp only [List.length_set, List.length_append, List.length_take]; omega) | (show wantB _ _ = true; simp <;> omega) | (show (_ : Bool) = _; simp_all; done) | (exfalso; omega) | refine aRegion_auto (by decide +kernel) ?_ | refine ⟨_, _, REnt.drop ⟨rfl, rfl⟩, ?_⟩ | fail))
                exact hK3
              | true =>
                by_cases hk0 : 0 < k
                · have hq2 : eqL [(a[k]?.getD SpT.dft).1, (a[k]?.getD SpT.dft).2] [(a[k - 1]?.getD SpT.dft).1, (a[k - 1]?.getD SpT.dft).2] = decide (Shp.at_ a k = Shp.at_ a (k - 1)) := by
                    rw [at_q, at_q]
                    exact eqS _ _
                  (repeat' (first | exact trivial | exact fun h => h | refine And.intro ?_ ?_ | (intro hb; try simp at hb) | omega | exact rfl | exact Nat.le_refl _ | (show _ + 1 ≤ 4294967296; omega) | (show _ + 1 ≤ 5864062014634; omega) | (dsimp only; omega) | (show (_ : Int) ≤ (_ : Int); omega) | (show _ < List.length _; simp only [List.length_set, List.length_append, List.length_take]; omega) | (show wantB _ _ = true; simp <;> omega) | (show (_ : Bool) = _; simp_all; done) | (exfalso; omega) | refine aRegion_auto (by decide +kernel) ?_ | fail))
                  · have hK3 := hno fun h => by
                      have h3 := hb.2
                      rw [hq2] at h3
                      have h4 := (hiff.1 h).2.2.2 (k - 1) (by omega)
                      rw [show k - 1 + 1 = k by omega] at h4
                      exact h4 (of_decide_eq_true h3).symm
                    (repeat' (first | exact trivial | exact fun h => h | refine And.intro ?_ ?_ | (intro hb; try simp at hb) | omega | exact rfl | exact Nat.le_refl _ | (show _ + 1 ≤ 4294967296; omega) | (show _ + 1 ≤ 5864062014634; omega) | (dsimp only; omega) | (show (_ : Int) ≤ (_ : Int); omega) | (show _ < List.length _; simp only [List.length_set, List.length_append, List.length_take]; omega) | (show wantB _ _ = true; simp <;> omega) | (show (_ : Bool) = _; simp_all; done) | (exfalso; omega) | refine aRegion_auto (by decide +kernel) ?_ | refine ⟨_, _, REnt.drop ⟨rfl, rfl⟩, ?_⟩ | fail))
                    exact hK3
                  · have h3 := hb hk0
                    rw [hq2] at h3
                    have h4 := of_decide_eq_false h3
                    clear hb
                    (repeat' (first | exact trivial | exact fun h => h | refine And.intro ?_ ?_ | (intro hb; try simp at hb) | omega | exact rfl | exact Nat.le_refl _ | (show _ + 1 ≤ 4294967296; omega) | (show _ + 1 ≤ 5864062014634; omega) | (dsimp only; omega) | (show (_ : Int) ≤ (_ : Int); omega) | (show _ < List.length _; simp only [List.length_set, List.length_append, List.length_take]; omega) | (show wantB _ _ = true; simp <;> omega) | (show (_ : Bool) = _; simp_all; done) | (exfalso; omega) | refine aRegion_auto (by decide +kernel) ?_ | fail))
                    refine ⟨k + 1, ⟨by show k + 1 ≤ a.length; omega, fun t h => ?_, fun t h => ?_⟩, by show a.length - (k + 1) < a.length - k; omega, Ent.sub rfl ?_⟩
                    · have h : t < k + 1 := h
                      by_cases c : t = k
                      · rw [c, hx]; exact hok
                      · exact hp t (by omega)
                    · have h : t + 1 < k + 1 := h
                      by_cases c : t + 1 = k
                      · have e : t = k - 1 := by omega
                        rw [c, e]
                        exact fun h => h4 h.symm
                      · exact hs t (by omega)
                    · (repeat' (first | exact trivial | exact rfl | refine And.intro ?_ ?_))
                · obtain rfl : k = 0 := by omega
                  (repeat' (first | exact trivial | exact fun h => h | refine And.intro ?_ ?_ | (intro hb; try simp at hb) | omega | exact rfl | exact Nat.le_refl _ | (show _ + 1 ≤ 4294967296; omega) | (show _ + 1 ≤ 5864062014634; omega) | (dsimp only; omega) | (show (_ : Int) ≤ (_ : Int); omega) | (show _ < List.length _; simp only [List.length_set, List.length_append, List.length_take]; omega) | (show wantB _ _ = true; simp <;> omega) | (show (_ : Bool) = _; simp_all; done) | (exfalso; omega) | refine aRegion_auto (by decide +kernel) ?_ | fail))
                  refine ⟨0 + 1, ⟨by show 0 + 1 ≤ a.length; omega, fun t h => ?_, fun t h => ?_⟩, by show a.length - (0 + 1) < a.length - 0; omega, Ent.sub rfl ?_⟩
                  · have h : t < 0 + 1 := h
                    have e : t = 0 := by omega
                    rw [e, hx]; exact hok
                  · have h : t + 1 < 0 + 1 := h
                    omega
                  · (repeat' (first | exact trivial | exact rfl | refine And.intro ?_ ?_))
            · have hgood := hgo (hiff.2 ⟨by omega, fun t ht => by unfold ngB; rw [hp t (by omega)]; rfl, hcl, fun t ht => hs t (by omega)⟩)
              (repeat' (first | exact trivial | exact fun h => h | refine And.intro ?_ ?_ | (intro hb; try simp at hb) | omega | exact rfl | exact Nat.le_refl _ | (show _ + 1 ≤ 4294967296; omega) | (show _ + 1 ≤ 5864062014634; omega) | (dsimp only; omega) | (show (_ : Int) ≤ (_ : Int); omega) | (show _ < List.length _; simp only [List.length_set, List.length_append, List.length_take]; omega) | (show wantB _ _ = true; simp <;> omega) | (show (_ : Bool) = _; simp_all; done) | (exfalso; omega) | refine aRegion_auto (by decide +kernel) ?_ | fail))
              refine ⟨i + 1, ⟨by show i + 1 ≤ m.length; omega, hgood⟩, by show m.length - (i + 1) < m.length - i; omega, Ent.sub rfl ?_⟩
              · (repeat' (first | exact trivial | exact rfl | refine And.intro ?_ ?_))
      · obtain rfl : i = m.length := by omega
        have B := MB_of hfew htt hbad
        have hap := Shp.apart_iff (m := m) (fun i k ⟨h1, h2⟩ => ((Shp.badA_iff _ _).1 (hbad i h1)).2.2.2 k h2) B.two
        (repeat' (first | exact trivial | exact fun h => h | refine And.intro ?_ ?_ | (intro hb; try simp at hb) | omega | exact rfl | exact Nat.le_refl _ | (show _ + 1 ≤ 4294967296; omega) | (show _ + 1 ≤ 5864062014634; omega) | (dsimp only; omega) | (show (_ : Int) ≤ (_ : Int); omega) | (show _ < List.length _; simp only [List.length_set, List.length_append, List.length_take]; omega) | (show wantB _ _ = true; simp <;> omega) | (show (_ : Bool) = _; simp_all; done) | (exfalso; omega) | refine aRegion_auto (by decide +kernel) ?_ | fail))
        refine acall_frame0 rfl (apart_any _ m B _ fun b hb0 => ?_)
        cases b with
        | true =>
          rw [Shp.vE_ok hB hbad (hap.1 (hb0.1 rfl))] at hK
          (repeat' (first | exact trivial | exact fun h => h | refine And.intro ?_ ?_ | (intro hb; try simp at hb) | omega | exact rfl | exact Nat.le_refl _ | (show _ + 1 ≤ 4294967296; omega) | (show _ + 1 ≤ 5864062014634; omega) | (dsimp only; omega) | (show (_ : Int) ≤ (_ : Int); omega) | (show _ < List.length _; simp only [List.length_set, List.length_append, List.length_take]; omega) | (show wantB _ _ = true; simp <;> omega) | (show (_ : Bool) = _; simp_all; done) | (exfalso; omega) | refine aRegion_auto (by decide +kernel) ?_ | refine ⟨_, _, REnt.drop ⟨rfl, rfl⟩, ?_⟩ | fail))
          exact hK
        | false =>
          rw [Shp.vE_order hB hbad fun h => by have := hb0.2 (hap.2 h); cases this] at hK
          (repeat' (first | exact trivial | exact fun h => h | refine And.intro ?_ ?_ | (intro hb; try simp at hb) | omega | exact rfl | exact Nat.le_refl _ | (show _ + 1 ≤ 4294967296; omega) | (show _ + 1 ≤ 5864062014634; omega) | (dsimp only; omega) | (show (_ : Int) ≤ (_ : Int); omega) | (show _ < List.length _; simp only [List.length_set, List.length_append, List.length_take]; omega) | (show wantB _ _ = true; simp <;> omega) | (show (_ : Bool) = _; simp_all; done) | (exfalso; omega) | refine aRegion_auto (by decide +kernel) ?_ | refine ⟨_, _, REnt.drop ⟨rfl, rfl⟩, ?_⟩ | fail))
          exact hK
end Go.Proofs.YtcfalmdfohphoaaDoor
/-
  What compares two ways at a place: the closure.
-/
namespace Go.Proofs.YtcfalmdfohphoaaDoor
open Go Go.Ab
set_option maxRecDepth 100000
abbrev bx2 (p : Int × Int) : AO := .box [.fz int p.1, .fz int p.2]
/-- the direction of a way at a place -/
def wdr (m : Shp.Arcs) (p : Shp.Sp) (w : Int) : Shp.Sp := Shp.sub (Shp.nxp m w) p
theorem nxp_pl {m : Shp.Arcs} (B : MB m) {w : Int} (hw : Shp.isWay m w) : plB (Shp.nxp m w) = true := by
  obtain ⟨h0, h1⟩ := hw
  have hi : w.natAbs - 1 < m.length := by omega
  have h2 := B.two _ hi
  have e : Shp.arcOf m w = Shp.arc m (w.natAbs - 1) := rfl
  unfold Shp.nxp
  split
  · exact B.pl (w.natAbs - 1) 1 ⟨hi, by omega⟩
  · rw [e]; exact B.pl (w.natAbs - 1) _ ⟨hi, by omega⟩
set_option maxHeartbeats 4000000 in
theorem nexts1_any (G : List (Nat × Value)) (m : Shp.Arcs) (B : MB m) (p : Int × Int) (hp : plB p = true) (v w : Int) (hv : Shp.isWay m v) (hw : Shp.isWay m w) (K : AV → List AO → Prop) (hK : K (.fz int (Shp.trn (wdr m p v) (wdr m p w))) []) :
    ACall Tryd.prog G 49 [.fz int v, .fz int w, .fptr MpT m, .fptr SpT p] [] K := by
  have pv := nxp_pl B hv
  have pw := nxp_pl B hw
  have cv := way_any G m v B hv
  have cw := way_any G m w B hw
  obtain ⟨f1, hf1⟩ : ∃ x, Shp.frm m v = x := ⟨_, rfl⟩
  obtain ⟨n1, hn1⟩ : ∃ x, Shp.nxp m v = x := ⟨_, rfl⟩
  obtain ⟨t1, ht1⟩ : ∃ x, tos m v = x := ⟨_, rfl⟩
  obtain ⟨f2, hf2⟩ : ∃ x, Shp.frm m w = x := ⟨_, rfl⟩
  obtain ⟨n2, hn2⟩ : ∃ x, Shp.nxp m w = x := ⟨_, rfl⟩
  obtain ⟨t2, ht2⟩ : ∃ x, tos m w = x := ⟨_, rfl⟩
  rw [hf1, hn1, ht1] at cv
  rw [hf2, hn2, ht2] at cw
  rw [hn1] at pv
  rw [hn2] at pw
  unfold wdr at hK
  rw [hn1, hn2] at hK
  refine acall_mk (E := envCut G 50 0 [2, 3]) (envCutOk _ _ _ _) Tryd.func49 rfl rfl rfl rfl rfl ?_
  refine acall_conv [.keep, .keep] _ _ _ rfl trivial (acall_frame0 rfl (cv _ ?_))
  (repeat' (first | exact trivial | exact fun h => h | refine And.intro ?_ ?_ | (intro hb; try simp at hb) | omega | exact rfl | exact Nat.le_refl _ | (show _ + 1 ≤ 4294967296; omega) | (show _ + 1 ≤ 5864062014634; omega) | (dsimp only; omega) | (show (_ : Int) ≤ (_ : Int); omega) | (show _ < List.length _; simp only [List.length_set, List.length_append, List.length_take]; omega) | (show wantB _ _ = true; simp <;> omega) | (show (_ : Bool) = _; simp_all; done) | (exfalso; omega) | refine aRegion_auto (by decide +kernel) ?_ | fail))
  (repeat' (first | exact trivial | exact fun h => h | refine And.intro ?_ ?_ | (intro hb; try simp at hb) | omega | exact rfl | exact Nat.le_refl _ | (show _ + 1 ≤ 4294967296; omega) | (show _ + 1 ≤ 5864062014634; omega) | (dsimp only; omega) | (show (_ : Int) ≤ (_ : Int); omega) | (show _ < List.length _; simp only [List.length_set, List.length_append, List.length_take]; omega) | (show wantB _ _ = true; simp <;> omega) | (show (_ : Bool) = _; simp_all; done) | (exfalso; omega) | refine aRegion_auto (by decide +kernel) ?_ | fail))
  refine ⟨[(1, .fz int w), (2, .fptr MpT m), (3, .fptr SpT p), (8, .ptr 0 0)], [bx2 n1], Ent.ren [1] rfl ?_ ?_, ?_⟩
  · (repeat' (first | exact trivial | exact rfl | refine And.intro ?_ ?_))
  · (repeat' (first | exact trivial | exact rfl | refine And.intro ?_ ?_))
  (repeat' (first | exact trivial | exact fun h => h | refine And.intro ?_ ?_ | (intro hb; try simp at hb) | omega | exact rfl | exact Nat.le_refl _ | (show _ + 1 ≤ 4294967296; omega) | (show _ + 1 ≤ 5864062014634; omega) | (dsimp only; omega) | (show (_ : Int) ≤ (_ : Int); omega) | (show _ < List.length _; simp only [List.length_set, List.length_append, List.length_take]; omega) | (show wantB _ _ = true; simp <;> omega) | (show (_ : Bool) = _; simp_all; done) | (exfalso; omega) | refine aRegion_auto (by decide +kernel) ?_ | fail))
  refine acall_conv [.keep, .keep] _ _ _ rfl trivial (acall_frame0 rfl (cw _ ?_))
  (repeat' (first | exact trivial | exact fun h => h | refine And.intro ?_ ?_ | (intro hb; try simp at hb) | omega | exact rfl | exact Nat.le_refl _ | (show _ + 1 ≤ 4294967296; omega) | (show _ + 1 ≤ 5864062014634; omega) | (dsimp only; omega) | (show (_ : Int) ≤ (_ : Int); omega) | (show _ < List.length _; simp only [List.length_set, List.length_append, List.length_take]; omega) | (show wantB _ _ = true; simp <;> omega) | (show (_ : Bool) = _; simp_all; done) | (exfalso; omega) | refine aRegion_auto (by decide +kernel) ?_ | fail))
  (repeat' (first | exact trivial | exact fun h => h | refine And.intro ?_ ?_ | (intro hb; try simp at hb) | omega | exact rfl | exact Nat.le_refl _ | (show _ + 1 ≤ 4294967296; omega) | (show _ + 1 ≤ 5864062014634; omega) | (dsimp only; omega) | (show (_ : Int) ≤ (_ : Int); omega) | (show _ < List.length _; simp only [List.length_set, List.length_append, List.length_take]; omega) | (show wantB _ _ = true; simp <;> omega) | (show (_ : Bool) = _; simp_all; done) | (exfalso; omega) | refine aRegion_auto (by decide +kernel) ?_ | fail))
  refine ⟨[(3, .fptr SpT p), (8, .ptr 0 0), (11, .ptr 1 0)], [bx2 n1, bx2 n2], Ent.ren [0, 2] rfl ?_ ?_, ?_⟩
  · (repeat' (first | exact trivial | exact rfl | refine And.intro ?_ ?_))
  · (repeat' (first | exact trivial | exact rfl | refine And.intro ?_ ?_))
  have d1 := dfB_sub pv hp
  have d2 := dfB_sub pw hp
  have hp2 := plB_iff.1 hp
  have pv2 := plB_iff.1 pv
  have pw2 := plB_iff.1 pw
  (repeat' (first | exact trivial | exact fun h => h | refine And.intro ?_ ?_ | (intro hb; try simp at hb) | omega | exact rfl | exact Nat.le_refl _ | (show _ + 1 ≤ 4294967296; omega) | (show _ + 1 ≤ 5864062014634; omega) | (dsimp only; omega) | (show (_ : Int) ≤ (_ : Int); omega) | (show _ < List.length _; simp only [List.length_set, List.length_append, List.length_take]; omega) | (show wantB _ _ = true; simp <;> omega) | (show (_ : Bool) = _; simp_all; done) | (exfalso; omega) | refine aRegion_auto (by decide +kernel) ?_ | fail))
  refine acall_conv [.dat SpT, .dat SpT] _ _ _ rfl trivial (acall_frame0 rfl (turned_any _ (Shp.sub n1 p) (Shp.sub n2 p) d1 d2 _ ?_))
  (repeat' (first | exact trivial | exact fun h => h | refine And.intro ?_ ?_ | (intro hb; try simp at hb) | omega | exact rfl | exact Nat.le_refl _ | (show _ + 1 ≤ 4294967296; omega) | (show _ + 1 ≤ 5864062014634; omega) | (dsimp only; omega) | (show (_ : Int) ≤ (_ : Int); omega) | (show _ < List.length _; simp only [List.length_set, List.length_append, List.length_take]; omega) | (show wantB _ _ = true; simp <;> omega) | (show (_ : Bool) = _; simp_all; done) | (exfalso; omega) | refine aRegion_auto (by decide +kernel) ?_ | refine ⟨_, _, REnt.drop ⟨rfl, rfl⟩, ?_⟩ | fail))
  exact hK
end Go.Proofs.YtcfalmdfohphoaaDoor
/-
  The next way, told by the document: the walk.
-/
namespace Go.Proofs.YtcfalmdfohphoaaDoor
open Go Go.Ab
set_option maxRecDepth 100000
theorem frm_pl {m : Shp.Arcs} (B : MB m) {w : Int} (hw : Shp.isWay m w) : plB (Shp.frm m w) = true := by
  obtain ⟨h0, h1⟩ := hw
  have hi : w.natAbs - 1 < m.length := by omega
  have h2 := B.two _ hi
  have e : Shp.arcOf m w = Shp.arc m (w.natAbs - 1) := rfl
  unfold Shp.frm
  split
  · exact B.pl (w.natAbs - 1) 0 ⟨hi, by omega⟩
  · rw [e]; exact B.pl (w.natAbs - 1) _ ⟨hi, by omega⟩
theorem neg_way {m : Shp.Arcs} {w : Int} (hw : Shp.isWay m w) : Shp.isWay m (-w) := ⟨by have := hw.1; omega, by have := hw.2; omega⟩
def nF (m : Shp.Arcs) (w : Int) (n j : Nat) : Int × Shp.Sp := ((Shp.wl n ++ [-((n : Int) + 1), (n : Int) + 1].take j).foldl (Shp.nst m w) (0, (0, 0)))
theorem nF_zero (m : Shp.Arcs) (w : Int) (n : Nat) : nF m w n 0 = (Shp.wl n).foldl (Shp.nst m w) (0, (0, 0)) := by unfold nF; rw [List.take_zero, List.append_nil]
theorem nF_two (m : Shp.Arcs) (w : Int) (n : Nat) : nF m w n 2 = nF m w (n + 1) 0 := by rw [nF_zero]; rfl
theorem nF_one (m : Shp.Arcs) (w : Int) (n : Nat) : nF m w n 1 = Shp.nst m w (nF m w n 0) (-((n : Int) + 1)) := by
  unfold nF
  rw [List.take_zero, List.append_nil, List.foldl_append]; rfl
theorem nF_last (m : Shp.Arcs) (w : Int) (n : Nat) : nF m w n 2 = Shp.nst m w (nF m w n 1) ((n : Int) + 1) := by
  unfold nF
  rw [List.foldl_append, List.foldl_append]; rfl
/-- what is known of what has been found -/
def nOk (st : Int × Shp.Sp) : Prop := st.1 = 0 ∨ dfB st.2
set_option maxHeartbeats 8000000 in
theorem nextOf_any (G : List (Nat × Value)) (m : Shp.Arcs) (B : MB m) (w : Int) (hw : Shp.isWay m w) (K : AV → List AO → Prop) (hK : K (.fz int (Shp.nof m w)) []) :
    ACall Tryd.prog G 41 [.fptr MpT m, .fz int w] [] K := by
  have hn := neg_way hw
  have hfew := B.few
  have hwb := hw.2
  have ha := frm_pl B hn
  have hb0 := nxp_pl B hn
  have cn := wayEnds_any G m (-w) B hn
  obtain ⟨p, hp⟩ : ∃ p, Shp.frm m (-w) = p := ⟨_, rfl⟩
  obtain ⟨q, hq⟩ : ∃ q, Shp.nxp m (-w) = q := ⟨_, rfl⟩
  have hdr : Shp.dr m (-w) = Shp.sub q p := by unfold Shp.dr; rw [hp, hq]
  rw [hp] at ha cn
  rw [hq] at hb0 cn
  have hap := plB_iff.1 ha
  have hqp := plB_iff.1 hb0
  have hdf := dfB_sub hb0 ha
  refine acall_mk (E := envCut G 96 0 [2, 13, 15]) (envCutOk _ _ _ _) Tryd.func41 rfl rfl rfl rfl rfl ?_
  (repeat' (first | exact trivial | exact fun h => h | refine And.intro ?_ ?_ | (intro hb; try simp at hb) | omega | exact rfl | exact Nat.le_refl _ | (show _ + 1 ≤ 4294967296; omega) | (show _ + 1 ≤ 5864062014634; omega) | (dsimp only; omega) | (show (_ : Int) ≤ (_ : Int); omega) | (show _ < List.length _; simp only [List.length_set, List.length_append, List.length_take]; omega) | (show wantB _ _ = true; simp <;> omega) | (show (_ : Bool) = _; simp_all; done) | (exfalso; omega) | refine aRegion_auto (by decide +kernel) ?_ | fail))
  refine acall_frame0 rfl (acall_arg (cn _ ?_) (congrArg (fun z => [AV.fptr MpT m, AV.fz int z]) (show -w = 0 - w by omega)))
  (repeat' (first | exact trivial | exact fun h => h | refine And.intro ?_ ?_ | (intro hb; try simp at hb) | omega | exact rfl | exact Nat.le_refl _ | (show _ + 1 ≤ 4294967296; omega) | (show _ + 1 ≤ 5864062014634; omega) | (dsimp only; omega) | (show (_ : Int) ≤ (_ : Int); omega) | (show _ < List.length _; simp only [List.length_set, List.length_append, List.length_take]; omega) | (show wantB _ _ = true; simp <;> omega) | (show (_ : Bool) = _; simp_all; done) | (exfalso; omega) | refine aRegion_auto (by decide +kernel) ?_ | fail))
  (repeat' (first | exact trivial | exact fun h => h | refine And.intro ?_ ?_ | (intro hb; try simp at hb) | omega | exact rfl | exact Nat.le_refl _ | (show _ + 1 ≤ 4294967296; omega) | (show _ + 1 ≤ 5864062014634; omega) | (dsimp only; omega) | (show (_ : Int) ≤ (_ : Int); omega) | (show _ < List.length _; simp only [List.length_set, List.length_append, List.length_take]; omega) | (show wantB _ _ = true; simp <;> omega) | (show (_ : Bool) = _; simp_all; done) | (exfalso; omega) | refine aRegion_auto (by decide +kernel) ?_ | fail))
  refine ⟨[(0, .fptr MpT m), (1, .fz int w), (5, .ptr 0 0), (6, .ptr 1 0)], [bx2 p, bx2 q], Ent.ren [0, 1] rfl ?_ ?_, ?_⟩
  · (repeat' (first | exact trivial | exact rfl | refine And.intro ?_ ?_))
  · (repeat' (first | exact trivial | exact rfl | refine And.intro ?_ ?_))
  (repeat' (first | exact trivial | exact fun h => h | refine And.intro ?_ ?_ | (intro hb; try simp at hb) | omega | exact rfl | exact Nat.le_refl _ | (show _ + 1 ≤ 4294967296; omega) | (show _ + 1 ≤ 5864062014634; omega) | (dsimp only; omega) | (show (_ : Int) ≤ (_ : Int); omega) | (show _ < List.length _; simp only [List.length_set, List.length_append, List.length_take]; omega) | (show wantB _ _ = true; simp <;> omega) | (show (_ : Bool) = _; simp_all; done) | (exfalso; omega) | refine aRegion_auto (by decide +kernel) ?_ | fail))
  refine ⟨Nat × (Int × Shp.Sp), fun x => ⟨[(0, .fptr MpT m), (1, .fz int w), (5, .ptr 0 0), (8, .ptr 1 0), (9, .fz int x.2.1), (10, .ptr 2 0), (11, .fz int ((x.1 : Int) + 1))], [bx2 p, bx2 (Shp.sub q p), bx2 x.2.2]⟩, fun x => x.1 ≤ m.length ∧ x.2 = nF m w x.1 0 ∧ nOk x.2, fun x => m.length - x.1, (0, (0, (0, 0))), ⟨Nat.zero_le _, rfl, .inl rfl⟩, Ent.ren [0, 2, 3] rfl ?_ ?_, ?_⟩
  · (repeat' (first | exact trivial | exact rfl | refine And.intro ?_ ?_))
  · (repeat' (first | exact trivial | exact rfl | refine And.intro ?_ ?_))
  rintro ⟨n, bst, dir⟩ ⟨hnm, hst, hok⟩
  have hnm : n ≤ m.length := hnm
  have hst : (bst, dir) = nF m w n 0 := hst
  have hok : nOk (bst, dir) := hok
  show awp _ _ _ ⟨[(0, .fptr MpT m), (1, .fz int w), (5, .ptr 0 0), (8, .ptr 1 0), (9, .fz int bst), (10, .ptr 2 0), (11, .fz int ((n : Int) + 1))], [bx2 p, bx2 (Shp.sub q p), bx2 dir]⟩
  by_cases hlt : n < m.length
  · (repeat' (first | exact trivial | exact fun h => h | refine And.intro ?_ ?_ | (intro hb; try simp at hb) | omega | exact rfl | exact Nat.le_refl _ | (show _ + 1 ≤ 4294967296; omega) | (show _ + 1 ≤ 5864062014634; omega) | (dsimp only; omega) | (show (_ : Int) ≤ (_ : Int); omega) | (show _ < List.length _; simp only [List.length_set, List.length_append, List.length_take]; omega) | (show wantB _ _ = true; simp <;> omega) | (show (_ : Bool) = _; simp_all; done) | (exfalso; omega) | refine aRegion_auto (by decide +kernel) ?_ | fail))
    refine ⟨Nat × (Int × Shp.Sp), fun x => ⟨[(0, .fptr MpT m), (1, .fz int w), (5, .ptr 0 0), (8, .ptr 1 0), (9, .fz int x.2.1), (10, .ptr 2 0), (11, .fz int ((n : Int) + 1)), (12, .fz int (2 * (x.1 : Int) - 1))], [bx2 p, bx2 (Shp.sub q p), bx2 x.2.2]⟩, fun x => x.1 ≤ 2 ∧ x.2 = nF m w n x.1 ∧ nOk x.2, fun x => 2 - x.1, (0, (bst, dir)), ⟨Nat.zero_le _, hst, hok⟩, Ent.sub rfl ?_, ?_⟩
    · (repeat' (first | exact trivial | exact rfl | refine And.intro ?_ ?_))
    rintro ⟨j, bst, dir⟩ ⟨hj2, hst, hok⟩
    have hj2 : j ≤ 2 := hj2
    have hst : (bst, dir) = nF m w n j := hst
    have hok : nOk (bst, dir) := hok
    show awp _ _ _ ⟨[(0, .fptr MpT m), (1, .fz int w), (5, .ptr 0 0), (8, .ptr 1 0), (9, .fz int bst), (10, .ptr 2 0), (11, .fz int ((n : Int) + 1)), (12, .fz int (2 * (j : Int) - 1))], [bx2 p, bx2 (Shp.sub q p), bx2 dir]⟩
    by_cases hj : j < 2
    · obtain ⟨v, hv, hvn⟩ : ∃ v : Int, ((n : Int) + 1) * (2 * (j : Int) - 1) = v ∧ nF m w n (j + 1) = Shp.nst m w (bst, dir) v := by
        rcases (by omega : j = 0 ∨ j = 1) with rfl | rfl
        · refine ⟨-((n : Int) + 1), by simp, ?_⟩
          rw [hst, nF_one]
        · refine ⟨(n : Int) + 1, by simp, ?_⟩
          rw [hst, nF_last]
      have hvb : v.natAbs = n + 1 := by
        rcases (by omega : j = 0 ∨ j = 1) with rfl | rfl
        · simp at hv; omega
        · simp at hv; omega
      have hway : Shp.isWay m v := ⟨by omega, by omega⟩
      have cv := wayEnds_any G m v B hway
      have pf := frm_pl B hway
      have pn := nxp_pl B hway
      obtain ⟨f, hf⟩ : ∃ f, Shp.frm m v = f := ⟨_, rfl⟩
      obtain ⟨g, hg⟩ : ∃ g, Shp.nxp m v = g := ⟨_, rfl⟩
      rw [hf] at cv pf
      rw [hg] at cv pn
      obtain ⟨s, hs⟩ : ∃ s : Int, 2 * (j : Int) - 1 = s := ⟨_, rfl⟩
      rw [hs] at hv ⊢
      have hsb : s ≤ 1 := by omega
      (repeat' (first | exact trivial | exact fun h => h | refine And.intro ?_ ?_ | (intro hb; try simp at hb) | omega | exact rfl | exact Nat.le_refl _ | (show _ + 1 ≤ 4294967296; omega) | (show _ + 1 ≤ 5864062014634; omega) | (dsimp only; omega) | (show (_ : Int) ≤ (_ : Int); omega) | (show _ < List.length _; simp only [List.length_set, List.length_append, List.length_take]; omega) | (show wantB _ _ = true; simp <;> omega) | (show (_ : Bool) = _; simp_all; done) | (exfalso; omega) | refine aRegion_auto (by decide +kernel) ?_ | fail))
      rw [hv]
      refine acall_frame0 rfl (cv _ ?_)
      (repeat' (first | exact trivial | exact fun h => h | refine And.intro ?_ ?_ | (intro hb; try simp at hb) | omega | exact rfl | exact Nat.le_refl _ | (show _ + 1 ≤ 4294967296; omega) | (show _ + 1 ≤ 5864062014634; omega) | (dsimp only; omega) | (show (_ : Int) ≤ (_ : Int); omega) | (show _ < List.length _; simp only [List.length_set, List.length_append, List.length_take]; omega) | (show wantB _ _ = true; simp <;> omega) | (show (_ : Bool) = _; simp_all; done) | (exfalso; omega) | refine aRegion_auto (by decide +kernel) ?_ | fail))
      (repeat' (first | exact trivial | exact fun h => h | refine And.intro ?_ ?_ | (intro hb; try simp at hb) | omega | exact rfl | exact Nat.le_refl _ | (show _ + 1 ≤ 4294967296; omega) | (show _ + 1 ≤ 5864062014634; omega) | (dsimp only; omega) | (show (_ : Int) ≤ (_ : Int); omega) | (show _ < List.length _; simp only [List.length_set, List.length_append, List.length_take]; omega) | (show wantB _ _ = true; simp <;> omega) | (show (_ : Bool) = _; simp_all; done) | (exfalso; omega) | refine aRegion_auto (by decide +kernel) ?_ | fail))
      refine ⟨[(0, .fptr MpT m), (1, .fz int w), (5, .ptr 0 0), (8, .ptr 1 0), (9, .fz int bst), (10, .ptr 2 0), (11, .fz int ((n : Int) + 1)), (12, .fz int s), (13, .fz int v), (14, .ptr 3 0), (15, .ptr 4 0)], [bx2 p, bx2 (Shp.sub q p), bx2 dir, bx2 f, bx2 g], Ent.ren [0, 1, 2, 3, 4] rfl ?_ ?_, ?_⟩
      · (repeat' (first | exact trivial | exact rfl | refine And.intro ?_ ?_))
      · (repeat' (first | exact trivial | exact rfl | refine And.intro ?_ ?_))
      have hskip : (v = -w ∨ f ≠ p) → (bst, dir) = nF m w n (j + 1) := fun h => by
        rw [hvn]
        unfold Shp.nst
        rw [hf, hp, if_pos h]
      have hgo : ¬ (v = -w ∨ f ≠ p) → nF m w n (j + 1) = if bst = 0 ∨ Shp.soon (Shp.sub q p) (Shp.sub g p) dir = true then (v, Shp.sub g p) else (bst, dir) := fun h => by
        have e : f = p := Classical.byContradiction fun c => h (.inr c)
        rw [hvn]
        unfold Shp.nst
        rw [hf, hp, if_neg h, hdr]
        unfold Shp.dr
        rw [hf, hg, e]
      have hs2 : s + 2 = 2 * ((j + 1 : Nat) : Int) - 1 := by omega
      have hef := eqS f p
      have hgp := plB_iff.1 pn
      have hvf : Shp.dr m v = Shp.sub g f := by unfold Shp.dr; rw [hf, hg]
      have hgd := dfB_sub pn ha
      (repeat' (first | exact trivial | exact fun h => h | refine And.intro ?_ ?_ | (intro hb; try simp at hb) | omega | exact rfl | exact Nat.le_refl _ | (show _ + 1 ≤ 4294967296; omega) | (show _ + 1 ≤ 5864062014634; omega) | (dsimp only; omega) | (show (_ : Int) ≤ (_ : Int); omega) | (show _ < List.length _; simp only [List.length_set, List.length_append, List.length_take]; omega) | (show wantB _ _ = true; simp <;> omega) | (show (_ : Bool) = _; simp_all; done) | (exfalso; omega) | refine aRegion_auto (by decide +kernel) ?_ | fail))
      · have h1 := hskip (hb.imp id fun h => by rw [hef] at h; exact of_decide_eq_false h)
        clear hb
        (repeat' (first | exact trivial | exact fun h => h | refine And.intro ?_ ?_ | (intro hb; try simp at hb) | omega | exact rfl | exact Nat.le_refl _ | (show _ + 1 ≤ 4294967296; omega) | (show _ + 1 ≤ 5864062014634; omega) | (dsimp only; omega) | (show (_ : Int) ≤ (_ : Int); omega) | (show _ < List.length _; simp only [List.length_set, List.length_append, List.length_take]; omega) | (show wantB _ _ = true; simp <;> omega) | (show (_ : Bool) = _; simp_all; done) | (exfalso; omega) | refine aRegion_auto (by decide +kernel) ?_ | fail))
        refine ⟨(j + 1, (bst, dir)), ⟨by show j + 1 ≤ 2; omega, h1, hok⟩, by show 2 - (j + 1) < 2 - j; omega, Ent.ren [0, 1, 2] rfl ?_ ?_⟩
        · (repeat' (first | exact trivial | exact rfl | refine And.intro ?_ ?_))
        · (repeat' (first | exact trivial | exact rfl | refine And.intro ?_ ?_))
          exact congrArg (fun z => AV.fz int z) hs2
      · have h1 := hgo (fun h => h.elim hb.1 fun h => by have h2 := hb.2; rw [hef] at h2; exact h (of_decide_eq_true h2))
        clear hb
        (repeat' (first | exact trivial | exact fun h => h | refine And.intro ?_ ?_ | (intro hb; try simp at hb) | omega | exact rfl | exact Nat.le_refl _ | (show _ + 1 ≤ 4294967296; omega) | (show _ + 1 ≤ 5864062014634; omega) | (dsimp only; omega) | (show (_ : Int) ≤ (_ : Int); omega) | (show _ < List.length _; simp only [List.length_set, List.length_append, List.length_take]; omega) | (show wantB _ _ = true; simp <;> omega) | (show (_ : Bool) = _; simp_all; done) | (exfalso; omega) | refine aRegion_auto (by decide +kernel) ?_ | fail))
        refine ⟨[(0, .fptr MpT m), (1, .fz int w), (5, .ptr 0 0), (8, .ptr 1 0), (9, .fz int bst), (10, .ptr 2 0), (11, .fz int ((n : Int) + 1)), (12, .fz int s), (13, .fz int v), (17, .ptr 3 0)], [bx2 p, bx2 (Shp.sub q p), bx2 dir, bx2 (Shp.sub g p)], Ent.ren [0, 1, 2, 5] rfl ?_ ?_, ?_⟩
        · (repeat' (first | exact trivial | exact rfl | refine And.intro ?_ ?_))
        · (repeat' (first | exact trivial | exact rfl | refine And.intro ?_ ?_))
        by_cases hb1 : bst = 0
        · rw [if_pos (.inl hb1)] at h1
          subst hb1
          (repeat' (first | exact trivial | exact fun h => h | refine And.intro ?_ ?_ | (intro hb; try simp at hb) | omega | exact rfl | exact Nat.le_refl _ | (show _ + 1 ≤ 4294967296; omega) | (show _ + 1 ≤ 5864062014634; omega) | (dsimp only; omega) | (show (_ : Int) ≤ (_ : Int); omega) | (show _ < List.length _; simp only [List.length_set, List.length_append, List.length_take]; omega) | (show wantB _ _ = true; simp <;> omega) | (show (_ : Bool) = _; simp_all; done) | (exfalso; omega) | refine aRegion_auto (by decide +kernel) ?_ | fail))
          refine ⟨(j + 1, (v, Shp.sub g p)), ⟨by show j + 1 ≤ 2; omega, h1.symm, .inr hgd⟩, by show 2 - (j + 1) < 2 - j; omega, Ent.ren [0, 1, 2] rfl ?_ ?_⟩
          · (repeat' (first | exact trivial | exact rfl | refine And.intro ?_ ?_))
          · (repeat' (first | exact trivial | exact rfl | refine And.intro ?_ ?_))
            exact congrArg (fun z => AV.fz int z) hs2
        · have hdd : dfB dir := hok.resolve_left hb1
          obtain ⟨c, hc⟩ : ∃ c, Shp.soon (Shp.sub q p) (Shp.sub g p) dir = c := ⟨_, rfl⟩
          have hsn := sooner_any G (Shp.sub q p) (Shp.sub g p) dir hdf hgd hdd
          rw [hc] at h1 hsn
          (repeat' (first | exact trivial | exact fun h => h | refine And.intro ?_ ?_ | (intro hb; try simp at hb) | omega | exact rfl | exact Nat.le_refl _ | (show _ + 1 ≤ 4294967296; omega) | (show _ + 1 ≤ 5864062014634; omega) | (dsimp only; omega) | (show (_ : Int) ≤ (_ : Int); omega) | (show _ < List.length _; simp only [List.length_set, List.length_append, List.length_take]; omega) | (show wantB _ _ = true; simp <;> omega) | (show (_ : Bool) = _; simp_all; done) | (exfalso; omega) | refine aRegion_auto (by decide +kernel) ?_ | fail))
          refine acall_conv [.dat SpT, .dat SpT, .dat SpT] _ _ _ rfl trivial (acall_frame0 rfl (hsn _ ?_))
          cases c with
          | true =>
            rw [if_pos (.inr rfl)] at h1
            (repeat' (first | exact trivial | exact fun h => h | refine And.intro ?_ ?_ | (intro hb; try simp at hb) | omega | exact rfl | exact Nat.le_refl _ | (show _ + 1 ≤ 4294967296; omega) | (show _ + 1 ≤ 5864062014634; omega) | (dsimp only; omega) | (show (_ : Int) ≤ (_ : Int); omega) | (show _ < List.length _; simp only [List.length_set, List.length_append, List.length_take]; omega) | (show wantB _ _ = true; simp <;> omega) | (show (_ : Bool) = _; simp_all; done) | (exfalso; omega) | refine aRegion_auto (by decide +kernel) ?_ | fail))
            refine ⟨(j + 1, (v, Shp.sub g p)), ⟨by show j + 1 ≤ 2; omega, h1.symm, .inr hgd⟩, by show 2 - (j + 1) < 2 - j; omega, Ent.ren [0, 1, 2] rfl ?_ ?_⟩
            · (repeat' (first | exact trivial | exact rfl | refine And.intro ?_ ?_))
            · (repeat' (first | exact trivial | exact rfl | refine And.intro ?_ ?_))
              exact congrArg (fun z => AV.fz int z) hs2
          | false =>
            rw [if_neg (fun h => h.elim hb1 (fun h => by cases h))] at h1
            (repeat' (first | exact trivial | exact fun h => h | refine And.intro ?_ ?_ | (intro hb; try simp at hb) | omega | exact rfl | exact Nat.le_refl _ | (show _ + 1 ≤ 4294967296; omega) | (show _ + 1 ≤ 5864062014634; omega) | (dsimp only; omega) | (show (_ : Int) ≤ (_ : Int); omega) | (show _ < List.length _; simp only [List.length_set, List.length_append, List.length_take]; omega) | (show wantB _ _ = true; simp <;> omega) | (show (_ : Bool) = _; simp_all; done) | (exfalso; omega) | refine aRegion_auto (by decide +kernel) ?_ | fail))
            refine ⟨(j + 1, (bst, dir)), ⟨by show j + 1 ≤ 2; omega, h1.symm, hok⟩, by show 2 - (j + 1) < 2 - j; omega, Ent.ren [0, 1, 2] rfl ?_ ?_⟩
            · (repeat' (first | exact trivial | exact rfl | refine And.intro ?_ ?_))
            · (repeat' (first | exact trivial | exact rfl | refine And.intro ?_ ?_))
              exact congrArg (fun z => AV.fz int z) hs2
    · obtain rfl : j = 2 := by omega
      rw [nF_two] at hst
      (repeat' (first | exact trivial | exact fun h => h | refine And.intro ?_ ?_ | (intro hb; try simp at hb) | omega | exact rfl | exact Nat.le_refl _ | (show _ + 1 ≤ 4294967296; omega) | (show _ + 1 ≤ 5864062014634; omega) | (dsimp only; omega) | (show (_ : Int) ≤ (_ : Int); omega) | (show _ < List.length _; simp only [List.length_set, List.length_append, List.length_take]; omega) | (show wantB _ _ = true; simp <;> omega) | (show (_ : Bool) = _; simp_all; done) | (exfalso; omega) | refine aRegion_auto (by decide +kernel) ?_ | fail))
      refine ⟨(n + 1, (bst, dir)), ⟨by show n + 1 ≤ m.length; omega, hst, hok⟩, by show m.length - (n + 1) < m.length - n; omega, Ent.sub rfl ?_⟩
      · (repeat' (first | exact trivial | exact rfl | refine And.intro ?_ ?_))
  · obtain rfl : n = m.length := by omega
    have hno : Shp.nof m w = if bst = 0 then -w else bst := by
      unfold Shp.nof
      rw [nF_zero] at hst
      rw [← hst]
    by_cases h0 : bst = 0
    · rw [hno, if_pos h0] at hK
      (repeat' (first | exact trivial | exact fun h => h | refine And.intro ?_ ?_ | (intro hb; try simp at hb) | omega | exact rfl | exact Nat.le_refl _ | (show _ + 1 ≤ 4294967296; omega) | (show _ + 1 ≤ 5864062014634; omega) | (dsimp only; omega) | (show (_ : Int) ≤ (_ : Int); omega) | (show _ < List.length _; simp only [List.length_set, List.length_append, List.length_take]; omega) | (show wantB _ _ = true; simp <;> omega) | (show (_ : Bool) = _; simp_all; done) | (exfalso; omega) | refine aRegion_auto (by decide +kernel) ?_ | refine ⟨_, _, REnt.drop ⟨rfl, rfl⟩, ?_⟩ | fail))
      exact (congrArg (fun z => K (.fz int z) []) (show 0 - w = -w by omega)).mpr hK
    · rw [hno, if_neg h0] at hK
      (repeat' (first | exact trivial | exact fun h => h | refine And.intro ?_ ?_ | (intro hb; try simp at hb) | omega | exact rfl | exact Nat.le_refl _ | (show _ + 1 ≤ 4294967296; omega) | (show _ + 1 ≤ 5864062014634; omega) | (dsimp only; omega) | (show (_ : Int) ≤ (_ : Int); omega) | (show _ < List.length _; simp only [List.length_set, List.length_append, List.length_take]; omega) | (show wantB _ _ = true; simp <;> omega) | (show (_ : Bool) = _; simp_all; done) | (exfalso; omega) | refine aRegion_auto (by decide +kernel) ?_ | refine ⟨_, _, REnt.drop ⟨rfl, rfl⟩, ?_⟩ | fail))
      exact hK
end Go.Proofs.YtcfalmdfohphoaaDoor
/-
  Rounds one by one, plainly; the rounds told by the document: the walk.
-/
namespace Shp
/-- one way more to begin at -/
def rst (nf : Int → Int) (n : Nat) (s : List (List Int) × List Int) (w : Int) : List (List Int) × List Int :=
  (s.1 ++ ad (rd nf (2 * n + 1 - s.2.length) s.2 w), (rd nf (2 * n + 1 - s.2.length) s.2 w).reverse ++ s.2)
def rF (nf : Int → Int) (n i j : Nat) : List (List Int) × List Int := (wf i ++ [(i : Int) + 1, -((i : Int) + 1)].take j).foldl (rst nf n) ([], [])
theorem rF_zero (nf : Int → Int) (n i : Nat) : rF nf n i 0 = (wf i).foldl (rst nf n) ([], []) := by unfold rF; rw [List.take_zero, List.append_nil]
theorem rF_two (nf : Int → Int) (n i : Nat) : rF nf n i 2 = rF nf n (i + 1) 0 := by rw [rF_zero]; rfl
theorem rF_one (nf : Int → Int) (n i : Nat) : rF nf n i 1 = rst nf n (rF nf n i 0) ((i : Int) + 1) := by
  unfold rF; rw [List.take_zero, List.append_nil, List.foldl_append]; rfl
theorem rF_last (nf : Int → Int) (n i : Nat) : rF nf n i 2 = rst nf n (rF nf n i 1) (-((i : Int) + 1)) := by
  unfold rF; rw [List.foldl_append, List.foldl_append]; rfl
theorem rst_fold (nf : Int → Int) (n : Nat) : ∀ (ws : List Int) (s : List (List Int) × List Int), (ws.foldl (rst nf n) s).1 = s.1 ++ rnd nf n ws s.2
  | [], s => by simp [rnd]
  | w :: ws, s => by
    rw [List.foldl_cons, rst_fold nf n ws]
    exact List.append_assoc _ _ _
theorem rF_rounds (nf : Int → Int) (n : Nat) : (rF nf n n 0).1 = rounds nf n := by
  rw [rF_zero, rst_fold, List.nil_append]; rfl
theorem rst_gn {n : Nat} {nf : Int → Int} (hnf : ways n nf) {s : List (List Int) × List Int} (h : Gn n s.2) {w : Int} (hw : w ≠ 0 ∧ w.natAbs ≤ n) : Gn n (rst nf n s w).2 := rd_gone hnf _ _ _ h hw
/-- a round half gone -/
structure RH (nf : Int → Int) (n : Nat) (g : List Int) (w : Int) (l : List Int) (v : Int) : Prop where
  rest : rd nf (2 * n + 1 - g.length) g w = l ++ rd nf (2 * n + 1 - (l.length + g.length)) (l.reverse ++ g) v
  gn : Gn n (l.reverse ++ g)
  way : v ≠ 0 ∧ v.natAbs ≤ n
theorem RH.start {nf : Int → Int} {n : Nat} {g : List Int} {w : Int} (hg : Gn n g) (hw : w ≠ 0 ∧ w.natAbs ≤ n) : RH nf n g w [] w := ⟨by simp, hg, hw⟩
theorem RH.len {nf : Int → Int} {n : Nat} {g : List Int} {w v : Int} {l : List Int} (h : RH nf n g w l v) : l.length + g.length ≤ 2 * n := by
  have := h.gn.len
  simpa using this
theorem RH.next {nf : Int → Int} {n : Nat} (hnf : ways n nf) {g : List Int} {w v : Int} {l : List Int} (h : RH nf n g w l v) (hv : v ∉ l.reverse ++ g) : RH nf n g w (l ++ [v]) (nf v) := by
  have hl := h.len
  have e : (l ++ [v]).reverse ++ g = v :: (l.reverse ++ g) := by simp
  refine ⟨?_, ?_, hnf v h.way⟩
  · rw [h.rest, e]
    obtain ⟨f, hf⟩ : ∃ f, 2 * n + 1 - (l.length + g.length) = f + 1 := ⟨2 * n - (l.length + g.length), by omega⟩
    rw [hf, rd_out hv, show 2 * n + 1 - ((l ++ [v]).length + g.length) = f by simp; omega, List.append_assoc]
    rfl
  · rw [e]; exact h.gn.cons h.way hv
theorem RH.done {nf : Int → Int} {n : Nat} {g : List Int} {w v : Int} {l : List Int} (h : RH nf n g w l v) (hv : v ∈ l.reverse ++ g) : rd nf (2 * n + 1 - g.length) g w = l := by
  rw [h.rest, rd_in hv, List.append_nil]
/-- what is gone, as a row -/
def gR (n : Nat) (g : List Int) : List Bool := (List.range (2 * n + 1)).map fun t : Nat => decide (((t : Int) - (n : Int)) ∈ g)
theorem gR_len (n : Nat) (g : List Int) : (gR n g).length = 2 * n + 1 := by simp [gR]
theorem gR_get {n : Nat} {g : List Int} {v : Int} (hv : v.natAbs ≤ n) (d : Bool) : (gR n g).getD ((v + (n : Int)).toNat) d = decide (v ∈ g) := by
  unfold gR
  rw [List.getD_eq_getElem?_getD, List.getElem?_map, List.getElem?_range (by omega)]
  simp only [Option.map_some, Option.getD_some]
  rw [show (((v + (n : Int)).toNat : Nat) : Int) - (n : Int) = v by omega]
theorem gR_set {n : Nat} {g : List Int} {v : Int} (hv : v.natAbs ≤ n) : (gR n g).set ((v + (n : Int)).toNat) true = gR n (v :: g) := by
  apply List.ext_getElem?
  intro t
  unfold gR
  rw [List.getElem?_set, List.getElem?_map, List.getElem?_map]
  by_cases ht : (v + (n : Int)).toNat = t
  · rw [if_pos ht, if_pos (by simp; omega), ← ht, List.getElem?_range (by omega)]
    simp only [Option.map_some, Option.some.injEq]
    symm
    rw [decide_eq_true_eq, show (((v + (n : Int)).toNat : Nat) : Int) - (n : Int) = v by omega]
    exact List.mem_cons_self ..
  · rw [if_neg ht]
    rcases Nat.lt_or_ge t (2 * n + 1) with h | h
    · rw [List.getElem?_range h]
      simp only [Option.map_some, Option.some.injEq]
      refine decide_eq_decide.2 ?_
      rw [List.mem_cons]
      constructor
      · exact .inr
      · rintro (h2 | h2)
        · omega
        · exact h2
    · rw [List.getElem?_eq_none (by simpa using h)]; rfl
theorem gR_nil (n : Nat) : gR n [] = List.replicate (2 * n + 1) false := by
  apply List.ext_getElem?
  intro t
  unfold gR
  rw [List.getElem?_map, List.getElem?_replicate]
  by_cases h : t < 2 * n + 1
  · rw [List.getElem?_range h, if_pos h]; simp
  · rw [List.getElem?_eq_none (by simpa using h), if_neg h]; rfl
end Shp
namespace Go.Proofs.YtcfalmdfohphoaaDoor
open Go Go.Ab
set_option maxRecDepth 100000
set_option maxHeartbeats 8000000 in
theorem roundsOf_any (G : List (Nat × Value)) (m : Shp.Arcs) (B : MB m) (K : AV → List AO → Prop) (hK : K (.fz (.list (.list int)) (Shp.rounds (Shp.nof m) m.length)) []) :
    ACall Tryd.prog G 18 [.fptr MpT m] [] K := by
  have hfew := B.few
  have hnf := Shp.nof_way (m := m)
  obtain ⟨n, hn⟩ : ∃ n, m.length = n := ⟨_, rfl⟩
  obtain ⟨nf, hnn⟩ : ∃ nf, Shp.nof m = nf := ⟨_, rfl⟩
  have cn := nextOf_any G m B
  rw [hnn, hn] at hK hnf
  rw [hnn] at cn
  rw [hn] at hfew
  have cn2 : ∀ (v : Int), v ≠ 0 ∧ v.natAbs ≤ n → ∀ (K : AV → List AO → Prop), K (.fz int (nf v)) [] → ACall Tryd.prog G 41 [.fptr MpT m, .fz int v] [] K := fun v hv K h => cn v ⟨hv.1, by rw [hn]; exact hv.2⟩ K h
  clear cn
  refine acall_mk (E := envAt G 58 0) (envOk _ _ _) Tryd.func18 rfl rfl rfl rfl rfl ?_
  (repeat' (first | exact trivial | exact fun h => h | refine And.intro ?_ ?_ | (intro hb; try simp at hb) | omega | exact rfl | exact Nat.le_refl _ | (show _ + 1 ≤ 4294967296; omega) | (show _ + 1 ≤ 5864062014634; omega) | (dsimp only; omega) | (show (_ : Int) ≤ (_ : Int); omega) | (show _ < List.length _; simp only [List.length_set, List.length_append, List.length_take]; omega) | (show wantB _ _ = true; simp <;> omega) | (show (_ : Bool) = _; simp_all; done) | (exfalso; omega) | refine aRegion_auto (by decide +kernel) ?_ | fail))
  rw [hn]
  (repeat' (first | exact trivial | exact fun h => h | refine And.intro ?_ ?_ | (intro hb; try simp at hb) | omega | exact rfl | exact Nat.le_refl _ | (show _ + 1 ≤ 4294967296; omega) | (show _ + 1 ≤ 5864062014634; omega) | (dsimp only; omega) | (show (_ : Int) ≤ (_ : Int); omega) | (show _ < List.length _; simp only [List.length_set, List.length_append, List.length_take]; omega) | (show wantB _ _ = true; simp <;> omega) | (show (_ : Bool) = _; simp_all; done) | (exfalso; omega) | refine aRegion_auto (by decide +kernel) ?_ | fail))
  refine ⟨Nat × (List (List Int) × List Int), fun x => ⟨[(0, .fptr MpT m), (3, .fz int n), (4, .ref 0 0 (2 * n + 1)), (5, .ref 1 0 x.2.1.length), (6, .fz int ((x.1 : Int) + 1))], [.row .bool (Shp.gR n x.2.2), .row (.list int) x.2.1]⟩, fun x => x.1 ≤ n ∧ x.2 = Shp.rF nf n x.1 0 ∧ Shp.Gn n x.2.2 ∧ x.2.1.length ≤ 2 * x.1, fun x => n - x.1, (0, ([], [])), ⟨Nat.zero_le _, rfl, ⟨List.nodup_nil, fun v h => by cases h⟩, Nat.le_refl _⟩, (Ent.nil 5 (.list int) rfl).trans (Ent.sub ?_ ?_), ?_⟩
  · refine congrArg (fun z => [AO.row .bool z, AO.row (.list int) []]) (?_ : List.replicate (2 * (n : Int) + 1).toNat false = Shp.gR n [])
    rw [Shp.gR_nil, show (2 * (n : Int) + 1).toNat = 2 * n + 1 by omega]
  · (repeat' (first | exact trivial | exact rfl | refine And.intro ?_ ?_))
  rintro ⟨i, o, g⟩ ⟨hi, hst, hg, hol⟩
  have hi : i ≤ n := hi
  have hst : (o, g) = Shp.rF nf n i 0 := hst
  have hg : Shp.Gn n g := hg
  have hol : o.length ≤ 2 * i := hol
  show awp _ _ _ ⟨[(0, .fptr MpT m), (3, .fz int n), (4, .ref 0 0 (2 * n + 1)), (5, .ref 1 0 o.length), (6, .fz int ((i : Int) + 1))], [.row .bool (Shp.gR n g), .row (.list int) o]⟩
  by_cases hin : i < n
  · (repeat' (first | exact trivial | exact fun h => h | refine And.intro ?_ ?_ | (intro hb; try simp at hb) | omega | exact rfl | exact Nat.le_refl _ | (show _ + 1 ≤ 4294967296; omega) | (show _ + 1 ≤ 5864062014634; omega) | (dsimp only; omega) | (show (_ : Int) ≤ (_ : Int); omega) | (show _ < List.length _; simp only [List.length_set, List.length_append, List.length_take]; omega) | (show wantB _ _ = true; simp <;> omega) | (show (_ : Bool) = _; simp_all; done) | (exfalso; omega) | refine aRegion_auto (by decide +kernel) ?_ | fail))
    refine ⟨Nat × (List (List Int) × List Int), fun x => ⟨[(0, .fptr MpT m), (3, .fz int n), (4, .ref 0 0 (2 * n + 1)), (5, .ref 1 0 x.2.1.length), (6, .fz int ((i : Int) + 1)), (7, .fz int (1 - 2 * (x.1 : Int)))], [.row .bool (Shp.gR n x.2.2), .row (.list int) x.2.1]⟩, fun x => x.1 ≤ 2 ∧ x.2 = Shp.rF nf n i x.1 ∧ Shp.Gn n x.2.2 ∧ x.2.1.length ≤ 2 * i + x.1, fun x => 2 - x.1, (0, (o, g)), ⟨Nat.zero_le _, hst, hg, hol⟩, Ent.sub rfl ?_, ?_⟩
    · (repeat' (first | exact trivial | exact rfl | refine And.intro ?_ ?_))
    rintro ⟨j, o, g⟩ ⟨hj2, hst, hg, hol⟩
    have hj2 : j ≤ 2 := hj2
    have hst : (o, g) = Shp.rF nf n i j := hst
    have hg : Shp.Gn n g := hg
    have hol : o.length ≤ 2 * i + j := hol
    show awp _ _ _ ⟨[(0, .fptr MpT m), (3, .fz int n), (4, .ref 0 0 (2 * n + 1)), (5, .ref 1 0 o.length), (6, .fz int ((i : Int) + 1)), (7, .fz int (1 - 2 * (j : Int)))], [.row .bool (Shp.gR n g), .row (.list int) o]⟩
    by_cases hj : j < 2
    · obtain ⟨w, hw, hwn⟩ : ∃ w : Int, ((i : Int) + 1) * (1 - 2 * (j : Int)) = w ∧ Shp.rF nf n i (j + 1) = Shp.rst nf n (o, g) w := by
        rcases (by omega : j = 0 ∨ j = 1) with rfl | rfl
        · exact ⟨(i : Int) + 1, by simp, by rw [hst, Shp.rF_one]⟩
        · exact ⟨-((i : Int) + 1), by simp, by rw [hst, Shp.rF_last]⟩
      have hwb : w.natAbs = i + 1 := by
        rcases (by omega : j = 0 ∨ j = 1) with rfl | rfl
        · simp at hw; omega
        · simp at hw; omega
      have hway : w ≠ 0 ∧ w.natAbs ≤ n := ⟨by omega, by omega⟩
      obtain ⟨s, hs⟩ : ∃ s : Int, 1 - 2 * (j : Int) = s := ⟨_, rfl⟩
      rw [hs] at hw ⊢
      have hsb : -1 ≤ s ∧ s ≤ 1 := by omega
      have hgl := hg.len
      (repeat' (first | exact trivial | exact fun h => h | refine And.intro ?_ ?_ | (intro hb; try simp at hb) | omega | exact rfl | exact Nat.le_refl _ | (show _ + 1 ≤ 4294967296; omega) | (show _ + 1 ≤ 5864062014634; omega) | (dsimp only; omega) | (show (_ : Int) ≤ (_ : Int); omega) | (show _ < List.length _; simp only [List.length_set, List.length_append, List.length_take]; omega) | (show wantB _ _ = true; simp <;> omega) | (show (_ : Bool) = _; simp_all; done) | (exfalso; omega) | refine aRegion_auto (by decide +kernel) ?_ | fail))
      rw [hw]
      refine ⟨List Int × Int, fun x => ⟨[(0, .fptr MpT m), (3, .fz int n), (4, .ref 0 0 (2 * n + 1)), (5, .ref 1 0 o.length), (6, .fz int ((i : Int) + 1)), (7, .fz int s), (8, .ref 2 0 x.1.length), (9, .fz int x.2)], [.row .bool (Shp.gR n (x.1.reverse ++ g)), .row (.list int) o, .row int x.1]⟩, fun x => Shp.RH nf n g w x.1 x.2, fun x => 2 * n + 1 - x.1.length, ([], w), Shp.RH.start hg hway, (Ent.nil 8 int rfl).trans (Ent.sub rfl ?_), ?_⟩
      · (repeat' (first | exact trivial | exact rfl | refine And.intro ?_ ?_))
      rintro ⟨l, v⟩ hR
      have hR : Shp.RH nf n g w l v := hR
      have hRl := hR.len
      have hRw := hR.way
      have hgl2 := Shp.gR_len n (l.reverse ++ g)
      have hgg := Shp.gR_get (n := n) (g := l.reverse ++ g) hRw.2 false
      show awp _ _ _ ⟨[(0, .fptr MpT m), (3, .fz int n), (4, .ref 0 0 (2 * n + 1)), (5, .ref 1 0 o.length), (6, .fz int ((i : Int) + 1)), (7, .fz int s), (8, .ref 2 0 l.length), (9, .fz int v)], [.row .bool (Shp.gR n (l.reverse ++ g)), .row (.list int) o, .row int l]⟩
      have hs2 : s - 2 = 1 - 2 * ((j + 1 : Nat) : Int) := by omega
      have hq : (Shp.gR n (l.reverse ++ g))[(v + (n : Int)).toNat]?.getD Ty.bool.dft = decide (v ∈ l.reverse ++ g) := by
        rw [← hgg, List.getD_eq_getElem?_getD]; rfl
      by_cases hvm : v ∈ l.reverse ++ g
      · have hdn := hR.done hvm
        have hrs : Shp.rF nf n i (j + 1) = (o ++ Shp.ad l, l.reverse ++ g) := by
          rw [hwn]; unfold Shp.rst; rw [hdn]
        have hgn := hR.gn
        rw [decide_eq_true hvm] at hq
        (repeat' (first | exact trivial | exact fun h => h | refine And.intro ?_ ?_ | (intro hb; try simp at hb) | omega | exact rfl | exact Nat.le_refl _ | (show _ + 1 ≤ 4294967296; omega) | (show _ + 1 ≤ 5864062014634; omega) | (dsimp only; omega) | (show (_ : Int) ≤ (_ : Int); omega) | (show _ < List.length _; simp only [List.length_set, List.length_append, List.length_take]; omega) | (show wantB _ _ = true; simp <;> omega) | (show (_ : Bool) = _; simp_all; done) | (exfalso; omega) | refine aRegion_auto (by decide +kernel) ?_ | fail))
        · rw [hq] at hb; cases hb
        · have hl0 : l ≠ [] := fun e => by rw [e] at hb; simp at hb
          have had : Shp.ad l = [l] := by unfold Shp.ad; rw [if_neg hl0]
          rw [had] at hrs
          refine ⟨(j + 1, (o ++ [l], l.reverse ++ g)), ⟨by show j + 1 ≤ 2; omega, hrs.symm, hgn, by show (o ++ [l]).length ≤ 2 * i + (j + 1); rw [List.length_append, List.length_singleton]; omega⟩, by show 2 - (j + 1) < 2 - j; omega, Ent.ren [0, 4] rfl ?_ ?_⟩
          · (repeat' (first | exact trivial | exact rfl | refine And.intro ?_ ?_))
            refine congrArg (fun l => some (AO.row (.list int) l)) (?_ : List.take o.length o ++ [List.take l.length (List.drop 0 l)] = o ++ [l])
            rw [List.take_length, List.drop_zero, List.take_length]
          · (repeat' (first | exact trivial | exact rfl | refine And.intro ?_ ?_))
            all_goals first | exact congrArg (AV.ref 4 0) (show o.length + 1 = (o ++ [l]).length by simp) | exact congrArg (fun z => AV.fz int z) hs2
        · have had : Shp.ad l = [] := by unfold Shp.ad; rw [if_pos hb]
          rw [had, List.append_nil] at hrs
          refine ⟨(j + 1, (o, l.reverse ++ g)), ⟨by show j + 1 ≤ 2; omega, hrs.symm, hgn, by show o.length ≤ 2 * i + (j + 1); omega⟩, by show 2 - (j + 1) < 2 - j; omega, Ent.ren [0, 1] rfl ?_ ?_⟩
          · (repeat' (first | exact trivial | exact rfl | refine And.intro ?_ ?_))
          · (repeat' (first | exact trivial | exact rfl | refine And.intro ?_ ?_))
            exact congrArg (fun z => AV.fz int z) hs2
      · have hnx := hR.next hnf hvm
        rw [decide_eq_false hvm] at hq
        have hset := Shp.gR_set (n := n) (g := l.reverse ++ g) hRw.2
        (repeat' (first | exact trivial | exact fun h => h | refine And.intro ?_ ?_ | (intro hb; try simp at hb) | omega | exact rfl | exact Nat.le_refl _ | (show _ + 1 ≤ 4294967296; omega) | (show _ + 1 ≤ 5864062014634; omega) | (dsimp only; omega) | (show (_ : Int) ≤ (_ : Int); omega) | (show _ < List.length _; simp only [List.length_set, List.length_append, List.length_take]; omega) | (show wantB _ _ = true; simp <;> omega) | (show (_ : Bool) = _; simp_all; done) | (exfalso; omega) | refine aRegion_auto (by decide +kernel) ?_ | fail))
        rotate_left
        · have h9 : (Shp.gR n (l.reverse ++ g))[(v + (n : Int)).toNat]?.getD Ty.bool.dft = true := by assumption
          rw [hq] at h9; cases h9
        · have h9 : (Shp.gR n (l.reverse ++ g))[(v + (n : Int)).toNat]?.getD Ty.bool.dft = true := by assumption
          rw [hq] at h9; cases h9
        (repeat' (first | exact trivial | exact fun h => h | refine And.intro ?_ ?_ | (intro hb; try simp at hb) | omega | exact rfl | exact Nat.le_refl _ | (show _ + 1 ≤ 4294967296; omega) | (show _ + 1 ≤ 5864062014634; omega) | (dsimp only; omega) | (show (_ : Int) ≤ (_ : Int); omega) | (show _ < List.length _; simp only [List.length_set, List.length_append, List.length_take]; omega) | (show wantB _ _ = true; simp <;> omega) | (show (_ : Bool) = _; simp_all; done) | (exfalso; omega) | refine aRegion_auto (by decide +kernel) ?_ | fail))
        refine acall_frame0 rfl (cn2 v hRw _ ?_)
        (repeat' (first | exact trivial | exact fun h => h | refine And.intro ?_ ?_ | (intro hb; try simp at hb) | omega | exact rfl | exact Nat.le_refl _ | (show _ + 1 ≤ 4294967296; omega) | (show _ + 1 ≤ 5864062014634; omega) | (dsimp only; omega) | (show (_ : Int) ≤ (_ : Int); omega) | (show _ < List.length _; simp only [List.length_set, List.length_append, List.length_take]; omega) | (show wantB _ _ = true; simp <;> omega) | (show (_ : Bool) = _; simp_all; done) | (exfalso; omega) | refine aRegion_auto (by decide +kernel) ?_ | fail))
        refine ⟨(l ++ [v], nf v), hnx, by show 2 * n + 1 - (l ++ [v]).length < 2 * n + 1 - l.length; rw [List.length_append, List.length_singleton]; omega, Ent.ren [0, 1, 4] rfl ?_ ?_⟩
        · (repeat' (first | exact trivial | exact rfl | refine And.intro ?_ ?_))
          · refine congrArg (fun l => some (AO.row .bool l)) (?_ : (Shp.gR n (l.reverse ++ g)).set (0 + (v + (n : Int)).toNat) true = Shp.gR n ((l ++ [v]).reverse ++ g))
            rw [Nat.zero_add, hset]
            simp
          · refine congrArg (fun l => some (AO.row int l)) (?_ : List.take l.length l ++ [v] = l ++ [v])
            rw [List.take_length]
        · (repeat' (first | exact trivial | exact rfl | refine And.intro ?_ ?_))
          exact congrArg (AV.ref 4 0) (show l.length + 1 = (l ++ [v]).length by simp)
    · obtain rfl : j = 2 := by omega
      rw [Shp.rF_two] at hst
      (repeat' (first | exact trivial | exact fun h => h | refine And.intro ?_ ?_ | (intro hb; try simp at hb) | omega | exact rfl | exact Nat.le_refl _ | (show _ + 1 ≤ 4294967296; omega) | (show _ + 1 ≤ 5864062014634; omega) | (dsimp only; omega) | (show (_ : Int) ≤ (_ : Int); omega) | (show _ < List.length _; simp only [List.length_set, List.length_append, List.length_take]; omega) | (show wantB _ _ = true; simp <;> omega) | (show (_ : Bool) = _; simp_all; done) | (exfalso; omega) | refine aRegion_auto (by decide +kernel) ?_ | fail))
      refine ⟨(i + 1, (o, g)), ⟨by show i + 1 ≤ n; omega, hst, hg, by show o.length ≤ 2 * (i + 1); omega⟩, by show n - (i + 1) < n - i; omega, Ent.sub rfl ?_⟩
      · (repeat' (first | exact trivial | exact rfl | refine And.intro ?_ ?_))
  · obtain rfl : i = n := by omega
    have ho : o = Shp.rounds nf i := by rw [← Shp.rF_rounds, ← hst]
    rw [← ho] at hK
    (repeat' (first | exact trivial | exact fun h => h | refine And.intro ?_ ?_ | (intro hb; try simp at hb) | omega | exact rfl | exact Nat.le_refl _ | (show _ + 1 ≤ 4294967296; omega) | (show _ + 1 ≤ 5864062014634; omega) | (dsimp only; omega) | (show (_ : Int) ≤ (_ : Int); omega) | (show _ < List.length _; simp only [List.length_set, List.length_append, List.length_take]; omega) | (show wantB _ _ = true; simp <;> omega) | (show (_ : Bool) = _; simp_all; done) | (exfalso; omega) | refine aRegion_auto (by decide +kernel) ?_ | fail))
    refine ⟨_, _, (REnt.conv1 (.dat (.list (.list int))) _ rfl ?_).trans (REnt.drop ⟨rfl, rfl⟩), ?_⟩
    · (repeat' (first | exact trivial | refine And.intro ?_ ?_ | (show _ ≤ _; omega) | (show _ ≤ _; simp; done)))
    · refine (congrArg (fun l => K (.fz (.list (.list int)) l) []) (?_ : List.take o.length (List.drop 0 o) = o)).mpr hK
      rw [List.drop_zero, List.take_length]
end Go.Proofs.YtcfalmdfohphoaaDoor
/-
  slices.SortFunc at int: the library's contract laid here.
-/
namespace Go.Proofs
open Go.Shelf
def Tryd.sortInt_ren : Go.Shelf.Ren := ⟨fun | 6 => 48 | 14 => 63 | 15 => 64 | 20 => 76 | 21 => 77 | 22 => 78 | 23 => 79 | 24 => 80 | 25 => 81 | 26 => 82 | 27 => 83 | 28 => 84 | 29 => 85 | 46 => 89 | 47 => 90 | 48 => 91 | 49 => 92 | 50 => 93 | 57 => 94 | n => n, fun | 0 => 0 | 3 => 3 | 4 => 4 | 5 => 5 | 9 => 9 | 22 => 35 | 24 => 3 | 25 => 87 | 39 => 103 | 45 => 121 | 46 => 122 | 50 => 126 | 53 => 129 | 55 => 131 | 66 => 148 | 70 => 152 | 76 => 154 | 77 => 38 | n => n, fun | n => n⟩
theorem Tryd.sortInt : Go.Proofs.SlLaysF.n6 Tryd.prog Tryd.sortInt_ren := {
  mixed := by kernel_rfl
  f6 := .intro "slices.SortFunc[[]int,int]" ⟨by decide, Tryd.func48.trans (congrArg some (by kernel_rfl))⟩
  f14 := .intro "slices.pdqsortCmpFunc[int]" ⟨by decide, Tryd.func63.trans (congrArg some (by kernel_rfl))⟩
  f15 := Tryd.func64.trans (congrArg some (by kernel_rfl))
  f20 := .intro "slices.insertionSortCmpFunc[int]" ⟨by decide, Tryd.func76.trans (congrArg some (by kernel_rfl))⟩
  f21 := .intro "slices.heapSortCmpFunc[int]" ⟨by decide, Tryd.func77.trans (congrArg some (by kernel_rfl))⟩
  f22 := .intro "slices.breakPatternsCmpFunc[int]" ⟨by decide, Tryd.func78.trans (congrArg some (by kernel_rfl))⟩
  f23 := .intro "slices.choosePivotCmpFunc[int]" ⟨by decide, Tryd.func79.trans (congrArg some (by kernel_rfl))⟩
  f24 := .intro "slices.reverseRangeCmpFunc[int]" ⟨by decide, Tryd.func80.trans (congrArg some (by kernel_rfl))⟩
  f25 := .intro "slices.partialInsertionSortCmpFunc[int]" ⟨by decide, Tryd.func81.trans (congrArg some (by kernel_rfl))⟩
  f26 := .intro "slices.partitionEqualCmpFunc[int]" ⟨by decide, Tryd.func82.trans (congrArg some (by kernel_rfl))⟩
  f27 := .intro "slices.partitionCmpFunc[int]" ⟨by decide, Tryd.func83.trans (congrArg some (by kernel_rfl))⟩
  f28 := Tryd.func84.trans (congrArg some (by kernel_rfl))
  f29 := Tryd.func85.trans (congrArg some (by kernel_rfl))
  f46 := .intro "slices.siftDownCmpFunc[int]" ⟨by decide, Tryd.func89.trans (congrArg some (by kernel_rfl))⟩
  f47 := Tryd.func90.trans (congrArg some (by kernel_rfl))
  f48 := Tryd.func91.trans (congrArg some (by kernel_rfl))
  f49 := .intro "slices.medianAdjacentCmpFunc[int]" ⟨by decide, Tryd.func92.trans (congrArg some (by kernel_rfl))⟩
  f50 := .intro "slices.medianCmpFunc[int]" ⟨by decide, Tryd.func93.trans (congrArg some (by kernel_rfl))⟩
  f57 := .intro "slices.order2CmpFunc[int]" ⟨by decide, Tryd.func94.trans (congrArg some (by kernel_rfl))⟩
  t0 := Tryd.underlying0
  a0 := Tryd.isAgg0
  z0 := Tryd.sizeOf0
  v0 := Tryd.zeroValue0
  t3 := Tryd.underlying3
  a3 := Tryd.isAgg3
  z3 := Tryd.sizeOf3
  v3 := Tryd.zeroValue3
  t4 := Tryd.underlying4
  a4 := Tryd.isAgg4
  z4 := Tryd.sizeOf4
  v4 := Tryd.zeroValue4
  t5 := Tryd.underlying5
  a5 := Tryd.isAgg5
  z5 := Tryd.sizeOf5
  v5 := Tryd.zeroValue5
  t9 := Tryd.underlying9
  a9 := Tryd.isAgg9
  z9 := Tryd.sizeOf9
  v9 := Tryd.zeroValue9
  t22 := Tryd.underlying35
  a22 := Tryd.isAgg35
  z22 := Tryd.sizeOf35
  v22 := Tryd.zeroValue35
  a24 := Tryd.isAgg3
  z24 := Tryd.sizeOf3
  t25 := Tryd.underlying87
  a25 := Tryd.isAgg87
  z25 := Tryd.sizeOf87
  v25 := Tryd.zeroValue87
  t39 := Tryd.underlying103
  a39 := Tryd.isAgg103
  z39 := Tryd.sizeOf103
  v39 := Tryd.zeroValue103
  t45 := Tryd.underlying121
  a45 := Tryd.isAgg121
  z45 := Tryd.sizeOf121
  v45 := Tryd.zeroValue121
  t46 := Tryd.underlying122
  a46 := Tryd.isAgg122
  z46 := Tryd.sizeOf122
  v46 := Tryd.zeroValue122
  t50 := Tryd.underlying126
  a50 := Tryd.isAgg126
  z50 := Tryd.sizeOf126
  v50 := Tryd.zeroValue126
  t53 := Tryd.underlying129
  a53 := Tryd.isAgg129
  z53 := Tryd.sizeOf129
  v53 := Tryd.zeroValue129
  t55 := Tryd.underlying131
  a55 := Tryd.isAgg131
  z55 := Tryd.sizeOf131
  v55 := Tryd.zeroValue131
  t66 := Tryd.underlying148
  a66 := Tryd.isAgg148
  z66 := Tryd.sizeOf148
  v66 := Tryd.zeroValue148
  t70 := Tryd.underlying152
  a70 := Tryd.isAgg152
  z70 := Tryd.sizeOf152
  v70 := Tryd.zeroValue152
  t76 := Tryd.underlying154
  a76 := Tryd.isAgg154
  z76 := Tryd.sizeOf154
  v76 := Tryd.zeroValue154
  t77 := Tryd.underlying38
  a77 := Tryd.isAgg38
  z77 := Tryd.sizeOf38
  v77 := Tryd.zeroValue38 }
end Go.Proofs
