/-
  DrainGathers: the walk.
-/
import Derived.Test.YtepkknjncpbahaaDoorM7
namespace Go.Proofs.YtepkknjncpbahaaDoor
open Go Go.Ab
set_option maxRecDepth 100000
def rgB (b : Bool) (l : List Int) : Nat → Bool
  | 0 => b
  | k + 1 => rgB b l k && !badB (l.getD k 0)
theorem rgB_eq (b : Bool) (l : List Int) : ∀ k, k ≤ l.length → rgB b l k = (b && !(l.take k).any badB)
  | 0, _ => by unfold rgB; simp
  | k + 1, h => by
    unfold rgB
    rw [rgB_eq b l k (by omega), List.take_succ_eq_append_getElem (by omega)]
    have : l.getD k 0 = l[k] := by rw [List.getD_eq_getElem?_getD, List.getElem?_eq_getElem (by omega)]; rfl
    rw [this]
    rw [List.any_append]
    cases b <;> cases (List.take k l).any badB <;> simp
theorem rgB_end (b : Bool) (l : List Int) : rgB b l l.length = (b && !l.any badB) := by rw [rgB_eq b l _ (Nat.le_refl _), List.take_length]
set_option maxHeartbeats 4000000 in
theorem drainGathers_some {E : Errs} (hE : (EL E).Nodup) (a : Ras) (rain : List Int) (cell : Int) (hla : a.2.2.length ≤ 9223372036854775807) (hrl : rain.length ≤ 9223372036854775807) (K : AV → List AO → Prop) (hK : K (.fz .bool true) []) :
    ACall Tryd.prog (G8 E) 6 [.fptr RasT a, .fz (.list int) rain, .fz int cell] [] K := by
  refine acall_mk (E := envCut (G8 E) 168 0 [19]) (envCutOk _ _ _ _) Tryd.func6 rfl rfl rfl rfl rfl ?_
  (repeat' (first | exact trivial | exact fun h => h | refine And.intro ?_ ?_ | (intro hb; first | (simp at hb; done) | (simp at hb) | skip) | omega | exact rfl | exact Nat.le_refl _ | (show _ + 1 ≤ 4294967296; omega) | (dsimp only; omega) | (show (_ : Int) ≤ (_ : Int); omega) | (show _ < List.length _; simp only [List.length_set, List.length_append, List.length_take]; omega) | (show wantB _ _ = true; simp; done) | (show wantB _ _ = true; simp; omega) | (show (_ : Bool) = _; simp_all; done) | (exfalso; omega) | refine aRegion_auto (by decide +kernel) ?_ | refine ⟨_, _, REnt.drop ⟨rfl, rfl⟩, ?_⟩ | fail))
  refine acall_frame0 rfl (drains_any E _ ?_)
  (repeat' (first | exact trivial | exact fun h => h | refine And.intro ?_ ?_ | (intro hb; first | (simp at hb; done) | (simp at hb) | skip) | omega | exact rfl | exact Nat.le_refl _ | (show _ + 1 ≤ 4294967296; omega) | (dsimp only; omega) | (show (_ : Int) ≤ (_ : Int); omega) | (show _ < List.length _; simp only [List.length_set, List.length_append, List.length_take]; omega) | (show wantB _ _ = true; simp; done) | (show wantB _ _ = true; simp; omega) | (show (_ : Bool) = _; simp_all; done) | (exfalso; omega) | refine aRegion_auto (by decide +kernel) ?_ | refine ⟨_, _, REnt.drop ⟨rfl, rfl⟩, ?_⟩ | fail))
  refine acall_frame0 rfl (small80_any _ a _ ?_)
  (repeat' (first | exact trivial | exact fun h => h | refine And.intro ?_ ?_ | (intro hb; first | (simp at hb; done) | (simp at hb) | skip) | omega | exact rfl | exact Nat.le_refl _ | (show _ + 1 ≤ 4294967296; omega) | (dsimp only; omega) | (show (_ : Int) ≤ (_ : Int); omega) | (show _ < List.length _; simp only [List.length_set, List.length_append, List.length_take]; omega) | (show wantB _ _ = true; simp; done) | (show wantB _ _ = true; simp; omega) | (show (_ : Bool) = _; simp_all; done) | (exfalso; omega) | refine aRegion_auto (by decide +kernel) ?_ | refine ⟨_, _, REnt.drop ⟨rfl, rfl⟩, ?_⟩ | fail))
  all_goals first | exact hK | skip
  have hl : a.2.2.length ≤ 80 := by omega
  have hr2 : rain.length ≤ 200 := by omega
  refine acall_conv [.dat RasT, .keep] _ _ _ rfl trivial (acall_frame0 rfl (gather_one E a rain (by omega) (by omega) _ ?_))
  (repeat' (first | exact trivial | exact fun h => h | refine And.intro ?_ ?_ | (intro hb; first | (simp at hb; done) | (simp at hb) | skip) | omega | exact rfl | exact Nat.le_refl _ | (show _ + 1 ≤ 4294967296; omega) | (dsimp only; omega) | (show (_ : Int) ≤ (_ : Int); omega) | (show _ < List.length _; simp only [List.length_set, List.length_append, List.length_take]; omega) | (show wantB _ _ = true; simp; done) | (show wantB _ _ = true; simp; omega) | (show (_ : Bool) = _; simp_all; done) | (exfalso; omega) | refine aRegion_auto (by decide +kernel) ?_ | refine ⟨_, _, REnt.drop ⟨rfl, rfl⟩, ?_⟩ | fail))
  refine acall_conv [.dat RasT, .keep] _ _ _ rfl trivial (acall_frame0 rfl (way_two E a cell (by omega) _ ?_))
  (repeat' (first | exact trivial | exact fun h => h | refine And.intro ?_ ?_ | (intro hb; first | (simp at hb; done) | (simp at hb) | skip) | omega | exact rfl | exact Nat.le_refl _ | (show _ + 1 ≤ 4294967296; omega) | (dsimp only; omega) | (show (_ : Int) ≤ (_ : Int); omega) | (show _ < List.length _; simp only [List.length_set, List.length_append, List.length_take]; omega) | (show wantB _ _ = true; simp; done) | (show wantB _ _ = true; simp; omega) | (show (_ : Bool) = _; simp_all; done) | (exfalso; omega) | refine aRegion_auto (by decide +kernel) ?_ | refine ⟨_, _, REnt.drop ⟨rfl, rfl⟩, ?_⟩ | fail))
  refine acall_frame0 rfl (rasterError_any _ a (by omega) _ ?_)
  (repeat' (first | exact trivial | exact fun h => h | refine And.intro ?_ ?_ | (intro hb; first | (simp at hb; done) | (simp at hb) | skip) | omega | exact rfl | exact Nat.le_refl _ | (show _ + 1 ≤ 4294967296; omega) | (dsimp only; omega) | (show (_ : Int) ≤ (_ : Int); omega) | (show _ < List.length _; simp only [List.length_set, List.length_append, List.length_take]; omega) | (show wantB _ _ = true; simp; done) | (show wantB _ _ = true; simp; omega) | (show (_ : Bool) = _; simp_all; done) | (exfalso; omega) | refine aRegion_auto (by decide +kernel) ?_ | refine ⟨_, _, REnt.drop ⟨rfl, rfl⟩, ?_⟩ | fail))
  · have h4 := rerr_in a
    have hne : rerr a ≠ 0 := by omega
    have e1 : gaE a rain = rerr a := by unfold gaE; rw [if_neg hne]
    have e2 : gaQ a rain = [] := by unfold gaQ; rw [e1, if_neg hne]
    have e3 : wyE a cell = rerr a := by unfold wyE; rw [if_neg hne]
    have e4 : wyQ a cell = [] := by unfold wyQ; rw [e3, if_neg hne]
    rw [e1, e2, e3, e4]
    refine acall_frame0 rfl (coded_mercatorlaw4 hE (by omega) (rerr a) _ ?_)
    rw [decide_eq_true rfl]
    (repeat' (first | exact trivial | exact fun h => h | refine And.intro ?_ ?_ | (intro hb; first | (simp at hb; done) | (simp at hb) | skip) | omega | exact rfl | exact Nat.le_refl _ | (show _ + 1 ≤ 4294967296; omega) | (dsimp only; omega) | (show (_ : Int) ≤ (_ : Int); omega) | (show _ < List.length _; simp only [List.length_set, List.length_append, List.length_take]; omega) | (show wantB _ _ = true; simp; done) | (show wantB _ _ = true; simp; omega) | (show (_ : Bool) = _; simp_all; done) | (exfalso; omega) | refine aRegion_auto (by decide +kernel) ?_ | refine ⟨_, _, REnt.drop ⟨rfl, rfl⟩, ?_⟩ | fail))
    refine acall_frame0 rfl (coded_mercatorlaw4 hE (by omega) (rerr a) _ ?_)
    rw [decide_eq_true rfl]
    (repeat' (first | exact trivial | exact fun h => h | refine And.intro ?_ ?_ | (intro hb; first | (simp at hb; done) | (simp at hb) | skip) | omega | exact rfl | exact Nat.le_refl _ | (show _ + 1 ≤ 4294967296; omega) | (dsimp only; omega) | (show (_ : Int) ≤ (_ : Int); omega) | (show _ < List.length _; simp only [List.length_set, List.length_append, List.length_take]; omega) | (show wantB _ _ = true; simp; done) | (show wantB _ _ = true; simp; omega) | (show (_ : Bool) = _; simp_all; done) | (exfalso; omega) | refine aRegion_auto (by decide +kernel) ?_ | refine ⟨_, _, REnt.drop ⟨rfl, rfl⟩, ?_⟩ | fail))
    exact hK
  · have hv : rerr a = 0 := by omega
    have R := RasN.mk' hv
    rw [hv]
    (repeat' (first | exact trivial | exact fun h => h | refine And.intro ?_ ?_ | (intro hb; first | (simp at hb; done) | (simp at hb) | skip) | omega | exact rfl | exact Nat.le_refl _ | (show _ + 1 ≤ 4294967296; omega) | (dsimp only; omega) | (show (_ : Int) ≤ (_ : Int); omega) | (show _ < List.length _; simp only [List.length_set, List.length_append, List.length_take]; omega) | (show wantB _ _ = true; simp; done) | (show wantB _ _ = true; simp; omega) | (show (_ : Bool) = _; simp_all; done) | (exfalso; omega) | refine aRegion_auto (by decide +kernel) ?_ | refine ⟨_, _, REnt.drop ⟨rfl, rfl⟩, ?_⟩ | fail))
    have F := flowN a.1.toNat a.2.1.toNat (hts a) R.w0
    have hwh := R.wh
    obtain ⟨n, hn⟩ : ∃ n, n = a.1.toNat * a.2.1.toNat := ⟨_, rfl⟩
    have hln := R.len
    refine acall_frame0 rfl (floodOf_any _ a R _ ?_)
    have eFR : fRes a.1.toNat a.2.1.toNat a = ((fRes a.1.toNat a.2.1.toNat a).1, lst (a.1.toNat * a.2.1.toNat) (fun i => (((flD a.1.toNat a.2.1.toNat (hts a)).to i : Nat) : Int)), natL (flD a.1.toNat a.2.1.toNat (hts a)).ord) := rfl
    have eG : gaQ a rain = if gaE a rain = 0 then lst (a.1.toNat * a.2.1.toNat) (gaN (flD a.1.toNat a.2.1.toNat (hts a)).to (flD a.1.toNat a.2.1.toNat (hts a)).ord (fun i => rain.getD i 0) (a.1.toNat * a.2.1.toNat)) else [] := rfl
    have eW : wyQ a cell = if wyE a cell = 0 then wyL (flD a.1.toNat a.2.1.toNat (hts a)).to cell.toNat (wyT (flD a.1.toNat a.2.1.toNat (hts a)).to cell.toNat) else [] := rfl
    have eG1 : gaE a rain = if rain.length ≠ a.2.2.length ∨ rain.any badB = true then 3 else 0 := by unfold gaE; rw [if_pos hv]
    have eW1 : wyE a cell = if cell < 0 ∨ (a.2.2.length : Int) ≤ cell then 4 else 0 := by unfold wyE; rw [if_pos hv]
    rw [eFR]
    generalize (fRes a.1.toNat a.2.1.toNat a).1 = fill at *
    generalize (flD a.1.toNat a.2.1.toNat (hts a)).to = to at *
    generalize (flD a.1.toNat a.2.1.toNat (hts a)).ord = ord at *
    obtain ⟨w, hw⟩ : ∃ w, w = a.1.toNat := ⟨_, rfl⟩
    obtain ⟨h, hh⟩ : ∃ h, h = a.2.1.toNat := ⟨_, rfl⟩
    rw [← hw, ← hh] at R F hn hln hwh eG ⊢
    rw [← hn] at hln hwh eG ⊢
    clear eFR
    rw [hln] at eG1 eW1
    have hlt : ∀ t, ∀ u, u < n → itF to t u < n := fun t u hu => by rw [hn] at hu ⊢; exact F.it_lt hu t
    have hL := lst_len n (fun i => ((to i : Nat) : Int))
    have hoi : ∀ u, u < n → ord.idxOf u < n := fun u hu => by rw [hn] at hu ⊢; exact F.idx hu
    have hdn : ∀ u, u < n → to u ≠ u → ord.idxOf (to u) < ord.idxOf u := fun u hu => by rw [hn] at hu; exact F.pos u hu
    let bF : AO := .box [.fz (.list int) fill, .fz (.list int) (lst n (fun i => ((to i : Nat) : Int))), .fz (.list int) (natL ord)]
    have hG3 : gaE a rain ≤ 4 := by rw [eG1]; split <;> omega
    have hW3 : wyE a cell ≤ 4 := by rw [eW1]; split <;> omega
    generalize gaE a rain = ge at *
    generalize gaQ a rain = gq at *
    generalize wyE a cell = we at *
    generalize wyQ a cell = wq at *
    (repeat' (first | exact trivial | exact fun h => h | refine And.intro ?_ ?_ | (intro hb; first | (simp at hb; done) | (simp at hb) | skip) | omega | exact rfl | exact Nat.le_refl _ | (show _ + 1 ≤ 4294967296; omega) | (dsimp only; omega) | (show (_ : Int) ≤ (_ : Int); omega) | (show _ < List.length _; simp only [List.length_set, List.length_append, List.length_take]; omega) | (show wantB _ _ = true; simp; done) | (show wantB _ _ = true; simp; omega) | (show (_ : Bool) = _; simp_all; done) | (exfalso; omega) | refine aRegion_auto (by decide +kernel) ?_ | refine ⟨_, _, REnt.drop ⟨rfl, rfl⟩, ?_⟩ | fail))
    refine ⟨Nat, fun k => ⟨[(0, .fptr RasT a), (1, .fz (.list int) rain), (2, .fz int cell), (7, .fz .bool true), (9, .fz (.list int) gq), (10, .fz .raw (er E ge)), (11, .fz (.list int) wq), (12, .fz .raw (er E we)), (14, .ptr 0 0), (15, .fz .bool (rgB ((rain.length : Int) == (a.2.2.length : Int)) rain k)), (16, .fz int k)], [bF]⟩, fun k => k ≤ rain.length, fun k => rain.length - k, 0, Nat.zero_le _, Ent.sub ?_ ?_, ?_⟩
    · (repeat' (first | exact rfl | refine cons_eq ?_ ?_))
    · (repeat' (first | exact trivial | exact rfl | refine And.intro ?_ ?_))
    intro k hk
    by_cases hkn : k < rain.length
    · have q1 : List.getD rain (Int.toNat (k : Int)) int.dft = rain.getD k 0 := rfl
      have eb : rgB ((rain.length : Int) == (a.2.2.length : Int)) rain (k + 1) = (rgB ((rain.length : Int) == (a.2.2.length : Int)) rain k && !badB (rain.getD k 0)) := rfl
      show awp _ _ _ ⟨[(0, .fptr RasT a), (1, .fz (.list int) rain), (2, .fz int cell), (7, .fz .bool true), (9, .fz (.list int) gq), (10, .fz .raw (er E ge)), (11, .fz (.list int) wq), (12, .fz .raw (er E we)), (14, .ptr 0 0), (15, .fz .bool (rgB ((rain.length : Int) == (a.2.2.length : Int)) rain k)), (16, .fz int k)], [bF]⟩
      cases hrb : rgB ((rain.length : Int) == (a.2.2.length : Int)) rain k with
      | false =>
        (repeat' (first | exact trivial | exact fun h => h | refine And.intro ?_ ?_ | (intro hb; first | (simp at hb; done) | (simp at hb) | skip) | omega | exact rfl | exact Nat.le_refl _ | (show _ + 1 ≤ 4294967296; omega) | (dsimp only; omega) | (show (_ : Int) ≤ (_ : Int); omega) | (show _ < List.length _; simp only [List.length_set, List.length_append, List.length_take]; omega) | (show wantB _ _ = true; simp; done) | (show wantB _ _ = true; simp; omega) | (show (_ : Bool) = _; simp_all; done) | (exfalso; omega) | refine aRegion_auto (by decide +kernel) ?_ | refine ⟨_, _, REnt.drop ⟨rfl, rfl⟩, ?_⟩ | fail))
        refine ⟨k + 1, by show k + 1 ≤ rain.length; omega, by show rain.length - (k + 1) < rain.length - k; omega, Ent.sub ?_ ?_⟩
        · (repeat' (first | exact rfl | refine cons_eq ?_ ?_))
        · (repeat' (first | exact trivial | exact rfl | refine And.intro ?_ ?_))
          refine congrArg (AV.fz .bool) (?_ : _ = rgB ((rain.length : Int) == (a.2.2.length : Int)) rain (k + 1))
          rw [eb, hrb]; rfl
      | true =>
        (repeat' (first | exact trivial | exact fun h => h | refine And.intro ?_ ?_ | (intro hb; first | (simp at hb; done) | (simp at hb) | skip) | omega | exact rfl | exact Nat.le_refl _ | (show _ + 1 ≤ 4294967296; omega) | (dsimp only; omega) | (show (_ : Int) ≤ (_ : Int); omega) | (show _ < List.length _; simp only [List.length_set, List.length_append, List.length_take]; omega) | (show wantB _ _ = true; simp; done) | (show wantB _ _ = true; simp; omega) | (show (_ : Bool) = _; simp_all; done) | (exfalso; omega) | refine aRegion_auto (by decide +kernel) ?_ | refine ⟨_, _, REnt.drop ⟨rfl, rfl⟩, ?_⟩ | fail))
        refine ⟨k + 1, by show k + 1 ≤ rain.length; omega, by show rain.length - (k + 1) < rain.length - k; omega, Ent.sub ?_ ?_⟩
        · (repeat' (first | exact rfl | refine cons_eq ?_ ?_))
        · (repeat' (first | exact trivial | exact rfl | refine And.intro ?_ ?_))
          refine congrArg (AV.fz .bool) (?_ : _ = rgB ((rain.length : Int) == (a.2.2.length : Int)) rain (k + 1))
          rw [eb, hrb]
          show (bif decide (0 ≤ rain.getD k 0) then decide (rain.getD k 0 ≤ 1048576) else false) = (true && !badB (rain.getD k 0))
          unfold badB
          rw [Bool.eq_iff_iff]
          simp
    · have hke : k = rain.length := by omega
      subst hke
      have erg := rgB_end ((rain.length : Int) == (a.2.2.length : Int)) rain
      rw [hln] at erg
      show awp _ _ _ ⟨[(0, .fptr RasT a), (1, .fz (.list int) rain), (2, .fz int cell), (7, .fz .bool true), (9, .fz (.list int) gq), (10, .fz .raw (er E ge)), (11, .fz (.list int) wq), (12, .fz .raw (er E we)), (14, .ptr 0 0), (15, .fz .bool (rgB ((rain.length : Int) == (a.2.2.length : Int)) rain rain.length)), (16, .fz int (rain.length : Nat))], [bF]⟩
      rw [hln]
      generalize rgB ((rain.length : Int) == (n : Int)) rain rain.length = rr at *
      by_cases hok : rain.length = n ∧ rain.any badB = false
      · have hrr : rr = true := by rw [erg, hok.1, hok.2]; simp
        have e0 : ge = 0 := by rw [eG1, if_neg (by rw [hok.2]; simp [hok.1])]
        subst hrr e0
        rw [if_pos rfl] at eG
        subst eG
        have hr : ∀ u, u < w * h → 0 ≤ rain.getD u 0 ∧ rain.getD u 0 ≤ 1048576 := fun u hu => by
          refine badB_no ?_
          have hu' : u < rain.length := by omega
          have := List.any_eq_false.1 hok.2 (rain[u]) (List.getElem_mem hu')
          rw [List.getD_eq_getElem?_getD, List.getElem?_eq_getElem hu']
          simpa using this
        have eR : rain = lst (w * h) (fun i => rain.getD i 0) := by rw [← hn, ← hok.1]; exact (lst_of rain).symm
        have hL2 := lst_len n (gaN to ord (fun i => rain.getD i 0) n)
        (repeat' (first | exact trivial | exact fun h => h | refine And.intro ?_ ?_ | (intro hb; first | (simp at hb; done) | (simp at hb) | skip) | omega | exact rfl | exact Nat.le_refl _ | (show _ + 1 ≤ 4294967296; omega) | (dsimp only; omega) | (show (_ : Int) ≤ (_ : Int); omega) | (show _ < List.length _; simp only [List.length_set, List.length_append, List.length_take]; omega) | (show wantB _ _ = true; simp; done) | (show wantB _ _ = true; simp; omega) | (show (_ : Bool) = _; simp_all; done) | (exfalso; omega) | refine aRegion_auto (by decide +kernel) ?_ | refine ⟨_, _, REnt.drop ⟨rfl, rfl⟩, ?_⟩ | fail))
        refine acall_conv [.dat FT, .keep] _ _ _ rfl ?_ (acall_frame0 rfl (acall_arg (gatherOf_any _ (fill, lst n (fun i => ((to i : Nat) : Int)), natL ord) F (by omega) (by rw [hn]) (fun i => rain.getD i 0) hr _ ?_) (by rw [← eR]; rfl)))
        · (repeat' (first | exact trivial | refine And.intro ?_ ?_ | (show _ ≤ _; omega) | (show _ ≤ _; simp; done)))
        rw [← hn]
        (repeat' (first | exact trivial | exact fun h => h | refine And.intro ?_ ?_ | (intro hb; first | (simp at hb; done) | (simp at hb) | skip) | omega | exact rfl | exact Nat.le_refl _ | (show _ + 1 ≤ 4294967296; omega) | (dsimp only; omega) | (show (_ : Int) ≤ (_ : Int); omega) | (show _ < List.length _; simp only [List.length_set, List.length_append, List.length_take]; omega) | (show wantB _ _ = true; simp; done) | (show wantB _ _ = true; simp; omega) | (show (_ : Bool) = _; simp_all; done) | (exfalso; omega) | refine aRegion_auto (by decide +kernel) ?_ | refine ⟨_, _, REnt.drop ⟨rfl, rfl⟩, ?_⟩ | fail))
        refine acall_conv [.keep, .dat (.list int)] _ _ _ rfl ?_ (acall_frame0 rfl (sameInts_mercatorlaw4 _ _ _ (by omega) _ ?_))
        · (repeat' (first | exact trivial | refine And.intro ?_ ?_ | (show _ ≤ _; omega) | (show _ ≤ _; simp; done)))
        rw [List.drop_zero, List.take_of_length_le (by omega), decide_eq_true rfl]
        (repeat' (first | exact trivial | exact fun h => h | refine And.intro ?_ ?_ | (intro hb; first | (simp at hb; done) | (simp at hb) | skip) | omega | exact rfl | exact Nat.le_refl _ | (show _ + 1 ≤ 4294967296; omega) | (dsimp only; omega) | (show (_ : Int) ≤ (_ : Int); omega) | (show _ < List.length _; simp only [List.length_set, List.length_append, List.length_take]; omega) | (show wantB _ _ = true; simp; done) | (show wantB _ _ = true; simp; omega) | (show (_ : Bool) = _; simp_all; done) | (exfalso; omega) | refine aRegion_auto (by decide +kernel) ?_ | refine ⟨_, _, REnt.drop ⟨rfl, rfl⟩, ?_⟩ | fail))
        refine ⟨[(0, .fptr RasT a), (2, .fz int cell), (7, .fz .bool true), (11, .fz (.list int) wq), (12, .fz .raw (er E we)), (14, .ptr 0 0)], [bF], Ent.ren [0] rfl ?_ ?_, ?_⟩
        · (repeat' (first | exact trivial | exact rfl | refine And.intro ?_ ?_))
        · (repeat' (first | exact trivial | exact rfl | refine And.intro ?_ ?_))
        by_cases hc : cell < 0 ∨ (n : Int) ≤ cell
        · have hw4 : we = 4 := by rw [eW1, if_pos hc]
          subst hw4
          rw [if_neg (by omega)] at eW
          subst eW
          (repeat' (first | exact trivial | exact fun h => h | refine And.intro ?_ ?_ | (intro hb; first | (simp at hb; done) | (simp at hb) | skip) | omega | exact rfl | exact Nat.le_refl _ | (show _ + 1 ≤ 4294967296; omega) | (dsimp only; omega) | (show (_ : Int) ≤ (_ : Int); omega) | (show _ < List.length _; simp only [List.length_set, List.length_append, List.length_take]; omega) | (show wantB _ _ = true; simp; done) | (show wantB _ _ = true; simp; omega) | (show (_ : Bool) = _; simp_all; done) | (exfalso; omega) | refine aRegion_auto (by decide +kernel) ?_ | refine ⟨_, _, REnt.drop ⟨rfl, rfl⟩, ?_⟩ | fail))
          refine acall_frame0 rfl (coded_mercatorlaw4 hE (by omega) 4 _ ?_)
          rw [show decide (((4 : Nat) : Int) = 4) = true from rfl]
          (repeat' (first | exact trivial | exact fun h => h | refine And.intro ?_ ?_ | (intro hb; first | (simp at hb; done) | (simp at hb) | skip) | omega | exact rfl | exact Nat.le_refl _ | (show _ + 1 ≤ 4294967296; omega) | (dsimp only; omega) | (show (_ : Int) ≤ (_ : Int); omega) | (show _ < List.length _; simp only [List.length_set, List.length_append, List.length_take]; omega) | (show wantB _ _ = true; simp; done) | (show wantB _ _ = true; simp; omega) | (show (_ : Bool) = _; simp_all; done) | (exfalso; omega) | refine aRegion_auto (by decide +kernel) ?_ | refine ⟨_, _, REnt.drop ⟨rfl, rfl⟩, ?_⟩ | fail))
          exact hK
        · have hw4 : we = 0 := by rw [eW1, if_neg hc]
          subst hw4
          rw [if_pos rfl] at eW
          obtain ⟨c, rfl⟩ : ∃ c : Nat, cell = c := ⟨cell.toNat, by omega⟩
          rw [Int.toNat_natCast] at eW
          have hcn : c < n := by omega
          have hx := fun t => hoi _ (hlt t c hcn)
          (repeat' (first | exact trivial | exact fun h => h | refine And.intro ?_ ?_ | (intro hb; first | (simp at hb; done) | (simp at hb) | skip) | omega | exact rfl | exact Nat.le_refl _ | (show _ + 1 ≤ 4294967296; omega) | (dsimp only; omega) | (show (_ : Int) ≤ (_ : Int); omega) | (show _ < List.length _; simp only [List.length_set, List.length_append, List.length_take]; omega) | (show wantB _ _ = true; simp; done) | (show wantB _ _ = true; simp; omega) | (show (_ : Bool) = _; simp_all; done) | (exfalso; omega) | refine aRegion_auto (by decide +kernel) ?_ | refine ⟨_, _, REnt.drop ⟨rfl, rfl⟩, ?_⟩ | fail))
          refine ⟨Nat, fun t => ⟨[(2, .fz int (itF to t c)), (7, .fz .bool true), (11, .fz (.list int) wq), (12, .fz .raw (er E 0)), (14, .ptr 0 0), (17, .ref 1 0 (t + 1))], [bF, .row int (wyL to c t)]⟩, fun t => (∀ s, s < t → to (itF to s c) ≠ itF to s c) ∧ ord.idxOf (itF to t c) + t ≤ ord.idxOf c, fun t => ord.idxOf (itF to t c), 0, ⟨(fun s hs => absurd hs (Nat.not_lt_zero s)), Nat.le_refl _⟩, Ent.sub ?_ ?_, ?_⟩
          · (repeat' (first | exact rfl | refine cons_eq ?_ ?_))
          · (repeat' (first | exact trivial | exact rfl | refine And.intro ?_ ?_))
          intro t ⟨hs, hsum⟩
          have hc' := hlt t c hcn
          have hW := wyL_len to c t
          have g2 : (lst n (fun i => ((to i : Nat) : Int)))[itF to t c]?.getD int.dft = ((to (itF to t c) : Nat) : Int) := lst_get (fun i => ((to i : Nat) : Int)) hc'
          have hx0 : ord.idxOf c < n := hx 0
          by_cases he : to (itF to t c) = itF to t c
          · have ht : wyT to c = t := wyT_eq ⟨hs, he⟩
            rw [ht] at eW
            subst eW
            have hW2 : (wyL to c t).length ≤ 1000000000000 := by omega
            (repeat' (first | exact trivial | exact fun h => h | refine And.intro ?_ ?_ | (intro hb; first | (simp at hb; done) | (simp at hb) | skip) | omega | exact rfl | exact Nat.le_refl _ | (show _ + 1 ≤ 4294967296; omega) | (dsimp only; omega) | (show (_ : Int) ≤ (_ : Int); omega) | (show _ < List.length _; simp only [List.length_set, List.length_append, List.length_take]; omega) | (show wantB _ _ = true; simp; done) | (show wantB _ _ = true; simp; omega) | (show (_ : Bool) = _; simp_all; done) | (exfalso; omega) | refine aRegion_auto (by decide +kernel) ?_ | refine ⟨_, _, REnt.drop ⟨rfl, rfl⟩, ?_⟩ | fail))
            refine acall_conv [.keep, .dat (.list int)] _ _ _ rfl ?_ (acall_frame0 rfl (sameInts_mercatorlaw4 _ _ _ (by omega) _ ?_))
            · (repeat' (first | exact trivial | refine And.intro ?_ ?_ | (show _ ≤ _; omega) | (show _ ≤ _; simp; done)))
            rw [List.drop_zero, List.take_of_length_le (by omega), decide_eq_true rfl]
            (repeat' (first | exact trivial | exact fun h => h | refine And.intro ?_ ?_ | (intro hb; first | (simp at hb; done) | (simp at hb) | skip) | omega | exact rfl | exact Nat.le_refl _ | (show _ + 1 ≤ 4294967296; omega) | (dsimp only; omega) | (show (_ : Int) ≤ (_ : Int); omega) | (show _ < List.length _; simp only [List.length_set, List.length_append, List.length_take]; omega) | (show wantB _ _ = true; simp; done) | (show wantB _ _ = true; simp; omega) | (show (_ : Bool) = _; simp_all; done) | (exfalso; omega) | refine aRegion_auto (by decide +kernel) ?_ | refine ⟨_, _, REnt.drop ⟨rfl, rfl⟩, ?_⟩ | fail))
            exact hK
          · have ht := hlt (t + 1) c hcn
            have hd := hdn _ hc' he
            have hxt := hx t
            have hs' : ∀ s, s < t + 1 → to (itF to s c) ≠ itF to s c := fun s h1 => by
              by_cases e : s = t
              · subst e; exact he
              · exact hs s (by omega)
            have hsum' : ord.idxOf (to (itF to t c)) + (t + 1) ≤ ord.idxOf c := by omega
            have g1 : List.getD (lst n (fun i => ((to i : Nat) : Int))) (Int.toNat ((itF to t c : Nat) : Int)) int.dft = ((to (itF to t c) : Nat) : Int) := lst_at (fun i => ((to i : Nat) : Int)) hc'
            (repeat' (first | exact trivial | exact fun h => h | refine And.intro ?_ ?_ | (intro hb; first | (simp at hb; done) | (simp at hb) | skip) | omega | exact rfl | exact Nat.le_refl _ | (show _ + 1 ≤ 4294967296; omega) | (dsimp only; omega) | (show (_ : Int) ≤ (_ : Int); omega) | (show _ < List.length _; simp only [List.length_set, List.length_append, List.length_take]; omega) | (show wantB _ _ = true; simp; done) | (show wantB _ _ = true; simp; omega) | (show (_ : Bool) = _; simp_all; done) | (exfalso; omega) | refine aRegion_auto (by decide +kernel) ?_ | refine ⟨_, _, REnt.drop ⟨rfl, rfl⟩, ?_⟩ | fail))
            refine ⟨t + 1, ⟨hs', hsum'⟩, hd, Ent.ren [0, 3] rfl ?_ ?_⟩
            · (repeat' (first | exact trivial | exact rfl | refine And.intro ?_ ?_))
              refine congrArg (fun l => some (AO.row int l)) (?_ : List.take (t + 1) (wyL to c t) ++ [List.getD (lst n (fun i => ((to i : Nat) : Int))) (Int.toNat ((itF to t c : Nat) : Int)) int.dft] = wyL to c (t + 1))
              rw [g1, List.take_of_length_le (by omega)]
              exact wyL_succ to c t
            · (repeat' (first | exact trivial | exact rfl | refine And.intro ?_ ?_))
              exact congrArg (AV.fz int) g1
      · have hrr : rr = false := by
          rw [erg]
          by_cases e : rain.length = n
          · have : rain.any badB = true := by
              cases hh : rain.any badB with
              | true => rfl
              | false => exact absurd ⟨e, hh⟩ hok
            rw [this]; simp
          · have : ¬ (rain.length : Int) = n := by omega
            simp [this]
        have e0 : ge = 3 := by
          rw [eG1, if_pos]
          by_cases e : rain.length = n
          · right
            cases hh : rain.any badB with
            | true => rfl
            | false => exact absurd ⟨e, hh⟩ hok
          · exact .inl e
        subst hrr e0
        rw [if_neg (by omega)] at eG
        subst eG
        (repeat' (first | exact trivial | exact fun h => h | refine And.intro ?_ ?_ | (intro hb; first | (simp at hb; done) | (simp at hb) | skip) | omega | exact rfl | exact Nat.le_refl _ | (show _ + 1 ≤ 4294967296; omega) | (dsimp only; omega) | (show (_ : Int) ≤ (_ : Int); omega) | (show _ < List.length _; simp only [List.length_set, List.length_append, List.length_take]; omega) | (show wantB _ _ = true; simp; done) | (show wantB _ _ = true; simp; omega) | (show (_ : Bool) = _; simp_all; done) | (exfalso; omega) | refine aRegion_auto (by decide +kernel) ?_ | refine ⟨_, _, REnt.drop ⟨rfl, rfl⟩, ?_⟩ | fail))
        refine acall_frame0 rfl (coded_mercatorlaw4 hE (by omega) 3 _ ?_)
        rw [show decide (((3 : Nat) : Int) = 3) = true from rfl]
        (repeat' (first | exact trivial | exact fun h => h | refine And.intro ?_ ?_ | (intro hb; first | (simp at hb; done) | (simp at hb) | skip) | omega | exact rfl | exact Nat.le_refl _ | (show _ + 1 ≤ 4294967296; omega) | (dsimp only; omega) | (show (_ : Int) ≤ (_ : Int); omega) | (show _ < List.length _; simp only [List.length_set, List.length_append, List.length_take]; omega) | (show wantB _ _ = true; simp; done) | (show wantB _ _ = true; simp; omega) | (show (_ : Bool) = _; simp_all; done) | (exfalso; omega) | refine aRegion_auto (by decide +kernel) ?_ | refine ⟨_, _, REnt.drop ⟨rfl, rfl⟩, ?_⟩ | fail))
        refine ⟨[(0, .fptr RasT a), (2, .fz int cell), (7, .fz .bool true), (11, .fz (.list int) wq), (12, .fz .raw (er E we)), (14, .ptr 0 0)], [bF], Ent.ren [0] rfl ?_ ?_, ?_⟩
        · (repeat' (first | exact trivial | exact rfl | refine And.intro ?_ ?_))
        · (repeat' (first | exact trivial | exact rfl | refine And.intro ?_ ?_))
        by_cases hc : cell < 0 ∨ (n : Int) ≤ cell
        · have hw4 : we = 4 := by rw [eW1, if_pos hc]
          subst hw4
          rw [if_neg (by omega)] at eW
          subst eW
          (repeat' (first | exact trivial | exact fun h => h | refine And.intro ?_ ?_ | (intro hb; first | (simp at hb; done) | (simp at hb) | skip) | omega | exact rfl | exact Nat.le_refl _ | (show _ + 1 ≤ 4294967296; omega) | (dsimp only; omega) | (show (_ : Int) ≤ (_ : Int); omega) | (show _ < List.length _; simp only [List.length_set, List.length_append, List.length_take]; omega) | (show wantB _ _ = true; simp; done) | (show wantB _ _ = true; simp; omega) | (show (_ : Bool) = _; simp_all; done) | (exfalso; omega) | refine aRegion_auto (by decide +kernel) ?_ | refine ⟨_, _, REnt.drop ⟨rfl, rfl⟩, ?_⟩ | fail))
          refine acall_frame0 rfl (coded_mercatorlaw4 hE (by omega) 4 _ ?_)
          rw [show decide (((4 : Nat) : Int) = 4) = true from rfl]
          (repeat' (first | exact trivial | exact fun h => h | refine And.intro ?_ ?_ | (intro hb; first | (simp at hb; done) | (simp at hb) | skip) | omega | exact rfl | exact Nat.le_refl _ | (show _ + 1 ≤ 4294967296; omega) | (dsimp only; omega) | (show (_ : Int) ≤ (_ : Int); omega) | (show _ < List.length _; simp only [List.length_set, List.length_append, List.length_take]; omega) | (show wantB _ _ = true; simp; done) | (show wantB _ _ = true; simp; omega) | (show (_ : Bool) = _; simp_all; done) | (exfalso; omega) | refine aRegion_auto (by decide +kernel) ?_ | refine ⟨_, _, REnt.drop ⟨rfl, rfl⟩, ?_⟩ | fail))
          exact hK
        · have hw4 : we = 0 := by rw [eW1, if_neg hc]
          subst hw4
          rw [if_pos rfl] at eW
          obtain ⟨c, rfl⟩ : ∃ c : Nat, cell = c := ⟨cell.toNat, by omega⟩
          rw [Int.toNat_natCast] at eW
          have hcn : c < n := by omega
          have hx := fun t => hoi _ (hlt t c hcn)
          (repeat' (first | exact trivial | exact fun h => h | refine And.intro ?_ ?_ | (intro hb; first | (simp at hb; done) | (simp at hb) | skip) | omega | exact rfl | exact Nat.le_refl _ | (show _ + 1 ≤ 4294967296; omega) | (dsimp only; omega) | (show (_ : Int) ≤ (_ : Int); omega) | (show _ < List.length _; simp only [List.length_set, List.length_append, List.length_take]; omega) | (show wantB _ _ = true; simp; done) | (show wantB _ _ = true; simp; omega) | (show (_ : Bool) = _; simp_all; done) | (exfalso; omega) | refine aRegion_auto (by decide +kernel) ?_ | refine ⟨_, _, REnt.drop ⟨rfl, rfl⟩, ?_⟩ | fail))
          refine ⟨Nat, fun t => ⟨[(2, .fz int (itF to t c)), (7, .fz .bool true), (11, .fz (.list int) wq), (12, .fz .raw (er E 0)), (14, .ptr 0 0), (17, .ref 1 0 (t + 1))], [bF, .row int (wyL to c t)]⟩, fun t => (∀ s, s < t → to (itF to s c) ≠ itF to s c) ∧ ord.idxOf (itF to t c) + t ≤ ord.idxOf c, fun t => ord.idxOf (itF to t c), 0, ⟨(fun s hs => absurd hs (Nat.not_lt_zero s)), Nat.le_refl _⟩, Ent.sub ?_ ?_, ?_⟩
          · (repeat' (first | exact rfl | refine cons_eq ?_ ?_))
          · (repeat' (first | exact trivial | exact rfl | refine And.intro ?_ ?_))
          intro t ⟨hs, hsum⟩
          have hc' := hlt t c hcn
          have hW := wyL_len to c t
          have g2 : (lst n (fun i => ((to i : Nat) : Int)))[itF to t c]?.getD int.dft = ((to (itF to t c) : Nat) : Int) := lst_get (fun i => ((to i : Nat) : Int)) hc'
          have hx0 : ord.idxOf c < n := hx 0
          by_cases he : to (itF to t c) = itF to t c
          · have ht : wyT to c = t := wyT_eq ⟨hs, he⟩
            rw [ht] at eW
            subst eW
            have hW2 : (wyL to c t).length ≤ 1000000000000 := by omega
            (repeat' (first | exact trivial | exact fun h => h | refine And.intro ?_ ?_ | (intro hb; first | (simp at hb; done) | (simp at hb) | skip) | omega | exact rfl | exact Nat.le_refl _ | (show _ + 1 ≤ 4294967296; omega) | (dsimp only; omega) | (show (_ : Int) ≤ (_ : Int); omega) | (show _ < List.length _; simp only [List.length_set, List.length_append, List.length_take]; omega) | (show wantB _ _ = true; simp; done) | (show wantB _ _ = true; simp; omega) | (show (_ : Bool) = _; simp_all; done) | (exfalso; omega) | refine aRegion_auto (by decide +kernel) ?_ | refine ⟨_, _, REnt.drop ⟨rfl, rfl⟩, ?_⟩ | fail))
            refine acall_conv [.keep, .dat (.list int)] _ _ _ rfl ?_ (acall_frame0 rfl (sameInts_mercatorlaw4 _ _ _ (by omega) _ ?_))
            · (repeat' (first | exact trivial | refine And.intro ?_ ?_ | (show _ ≤ _; omega) | (show _ ≤ _; simp; done)))
            rw [List.drop_zero, List.take_of_length_le (by omega), decide_eq_true rfl]
            (repeat' (first | exact trivial | exact fun h => h | refine And.intro ?_ ?_ | (intro hb; first | (simp at hb; done) | (simp at hb) | skip) | omega | exact rfl | exact Nat.le_refl _ | (show _ + 1 ≤ 4294967296; omega) | (dsimp only; omega) | (show (_ : Int) ≤ (_ : Int); omega) | (show _ < List.length _; simp only [List.length_set, List.length_append, List.length_take]; omega) | (show wantB _ _ = true; simp; done) | (show wantB _ _ = true; simp; omega) | (show (_ : Bool) = _; simp_all; done) | (exfalso; omega) | refine aRegion_auto (by decide +kernel) ?_ | refine ⟨_, _, REnt.drop ⟨rfl, rfl⟩, ?_⟩ | fail))
            exact hK
          · have ht := hlt (t + 1) c hcn
            have hd := hdn _ hc' he
            have hxt := hx t
            have hs' : ∀ s, s < t + 1 → to (itF to s c) ≠ itF to s c := fun s h1 => by
              by_cases e : s = t
              · subst e; exact he
              · exact hs s (by omega)
            have hsum' : ord.idxOf (to (itF to t c)) + (t + 1) ≤ ord.idxOf c := by omega
            have g1 : List.getD (lst n (fun i => ((to i : Nat) : Int))) (Int.toNat ((itF to t c : Nat) : Int)) int.dft = ((to (itF to t c) : Nat) : Int) := lst_at (fun i => ((to i : Nat) : Int)) hc'
            (repeat' (first | exact trivial | exact fun h => h | refine And.intro ?_ ?_ | (intro hb; first | (simp at hb; done) | (simp at hb) | skip) | omega | exact rfl | exact Nat.le_refl _ | (show _ + 1 ≤ 4294967296; omega) | (dsimp only; omega) | (show (_ : Int) ≤ (_ : Int); omega) | (show _ < List.length _; simp only [List.length_set, List.length_append, List.length_take]; omega) | (show wantB _ _ = true; simp; done) | (show wantB _ _ = true; simp; omega) | (show (_ : Bool) = _; simp_all; done) | (exfalso; omega) | refine aRegion_auto (by decide +kernel) ?_ | refine ⟨_, _, REnt.drop ⟨rfl, rfl⟩, ?_⟩ | fail))
            refine ⟨t + 1, ⟨hs', hsum'⟩, hd, Ent.ren [0, 3] rfl ?_ ?_⟩
            · (repeat' (first | exact trivial | exact rfl | refine And.intro ?_ ?_))
              refine congrArg (fun l => some (AO.row int l)) (?_ : List.take (t + 1) (wyL to c t) ++ [List.getD (lst n (fun i => ((to i : Nat) : Int))) (Int.toNat ((itF to t c : Nat) : Int)) int.dft] = wyL to c (t + 1))
              rw [g1, List.take_of_length_le (by omega)]
              exact wyL_succ to c t
            · (repeat' (first | exact trivial | exact rfl | refine And.intro ?_ ?_))
              exact congrArg (AV.fz int) g1
theorem drainGathers_nil {E : Errs} (rain : List Int) (cell : Int) (K : AV → List AO → Prop) (hK : K (.fz .bool true) []) :
    ACall Tryd.prog (G8 E) 6 [.fz .raw (.pointer none), .fz (.list int) rain, .fz int cell] [] K := by
  refine acall_mk (E := envAt (G8 E) 168 0) (envOk _ _ _) Tryd.func6 rfl rfl rfl rfl rfl ?_
  (repeat' (first | exact trivial | exact fun h => h | refine And.intro ?_ ?_ | (intro hb; first | (simp at hb; done) | (simp at hb) | skip) | omega | exact rfl | exact Nat.le_refl _ | (show _ + 1 ≤ 4294967296; omega) | (dsimp only; omega) | (show (_ : Int) ≤ (_ : Int); omega) | (show _ < List.length _; simp only [List.length_set, List.length_append, List.length_take]; omega) | (show wantB _ _ = true; simp; done) | (show wantB _ _ = true; simp; omega) | (show (_ : Bool) = _; simp_all; done) | (exfalso; omega) | refine aRegion_auto (by decide +kernel) ?_ | refine ⟨_, _, REnt.drop ⟨rfl, rfl⟩, ?_⟩ | fail))
  refine acall_frame0 rfl (drains_any E _ ?_)
  (repeat' (first | exact trivial | exact fun h => h | refine And.intro ?_ ?_ | (intro hb; first | (simp at hb; done) | (simp at hb) | skip) | omega | exact rfl | exact Nat.le_refl _ | (show _ + 1 ≤ 4294967296; omega) | (dsimp only; omega) | (show (_ : Int) ≤ (_ : Int); omega) | (show _ < List.length _; simp only [List.length_set, List.length_append, List.length_take]; omega) | (show wantB _ _ = true; simp; done) | (show wantB _ _ = true; simp; omega) | (show (_ : Bool) = _; simp_all; done) | (exfalso; omega) | refine aRegion_auto (by decide +kernel) ?_ | refine ⟨_, _, REnt.drop ⟨rfl, rfl⟩, ?_⟩ | fail))
  refine acall_frame0 rfl (small80_nil _ _ ?_)
  (repeat' (first | exact trivial | exact fun h => h | refine And.intro ?_ ?_ | (intro hb; first | (simp at hb; done) | (simp at hb) | skip) | omega | exact rfl | exact Nat.le_refl _ | (show _ + 1 ≤ 4294967296; omega) | (dsimp only; omega) | (show (_ : Int) ≤ (_ : Int); omega) | (show _ < List.length _; simp only [List.length_set, List.length_append, List.length_take]; omega) | (show wantB _ _ = true; simp; done) | (show wantB _ _ = true; simp; omega) | (show (_ : Bool) = _; simp_all; done) | (exfalso; omega) | refine aRegion_auto (by decide +kernel) ?_ | refine ⟨_, _, REnt.drop ⟨rfl, rfl⟩, ?_⟩ | fail))
  exact hK
end Go.Proofs.YtepkknjncpbahaaDoor
/-
  Streams: which cells are such, how many flow into each: the walk of the program's.
-/
namespace Go.Proofs.YtepkknjncpbahaaDoor
open Go Go.Ab
set_option maxRecDepth 100000
def lsb (n : Nat) (f : Nat → Bool) : List Bool := (List.range n).map f
theorem lsb_len (n : Nat) (f : Nat → Bool) : (lsb n f).length = n := by simp [lsb]
theorem lsb_at {n i : Nat} (f : Nat → Bool) (h : i < n) : (lsb n f).getD i false = f i := by simp [lsb, List.getD, h]
theorem lsb_get {n i : Nat} (f : Nat → Bool) (h : i < n) : (lsb n f)[i]?.getD Ty.bool.dft = f i := by simp [lsb, h]
theorem lsb_congr {n : Nat} {f g : Nat → Bool} (h : ∀ i, i < n → f i = g i) : lsb n f = lsb n g := List.map_congr_left fun i hi => h i (List.mem_range.1 hi)
theorem lsb_set {n i : Nat} (f : Nat → Bool) (v : Bool) : List.set (lsb n f) i v = lsb n (fun j => if j = i then v else f j) := by
  refine List.ext_getElem (by simp [lsb]) fun j h1 h2 => ?_
  simp only [lsb, List.getElem_set, List.getElem_map, List.getElem_range]
  by_cases h : i = j
  · subst h; simp
  · rw [if_neg h, if_neg (Ne.symm h)]
theorem lsb_zero (n : Nat) : List.replicate n false = lsb n (fun _ => false) := by
  refine List.ext_getElem (by simp [lsb]) fun j h1 h2 => ?_
  simp [lsb]
theorem rowb_set {n k : Nat} {f g : Nat → Bool} {v : Bool} (v' : Bool) (hv : v = v') (h : ∀ i, i < n → (if i = k then v' else f i) = g i) : AO.row .bool (List.set (lsb n f) (0 + Int.toNat (k : Int)) v) = AO.row .bool (lsb n g) := by
  subst hv
  rw [Nat.zero_add, Int.toNat_natCast, lsb_set]; exact congrArg (AO.row .bool) (lsb_congr h)
abbrev NetT : Ty := .pair FT (.pair (.list .bool) (.list int))
def onN (ga : Nat → Int) (least : Int) (i : Nat) : Bool := decide (least ≤ ga i)
/-- how many of the first k stream cells flow into a cell -/
def inN (to : Nat → Nat) (on : Nat → Bool) : Nat → Nat → Int
  | 0, _ => 0
  | k + 1, j => if (on k = true ∧ to k ≠ k) ∧ j = to k then inN to on k j + 1 else inN to on k j
theorem inN_bd {to : Nat → Nat} {on : Nat → Bool} : ∀ k j, 0 ≤ inN to on k j ∧ inN to on k j ≤ k
  | 0, _ => ⟨Int.le_refl _, Int.le_refl _⟩
  | k + 1, j => by
    have := inN_bd (to := to) (on := on) k j
    unfold inN
    split <;> omega
/-- what is in the net's stream list when k are over -/
def sN (on : Nat → Bool) (k i : Nat) : Bool := if i < k then on i else false
def oneK (k i : Nat) : Int := if i < k then 1 else 0
def strE (a : Ras) (least : Int) : Nat := if rerr a = 0 then (if least < 1 then 3 else 0) else rerr a
def gaO (a : Ras) : Nat → Int := gaN (flD a.1.toNat a.2.1.toNat (hts a)).to (flD a.1.toNat a.2.1.toNat (hts a)).ord (fun _ => 1) (a.1.toNat * a.2.1.toNat)
def strNet (a : Ras) (least : Int) : NetT.den := (fResP a.1.toNat a.2.1.toNat a, lsb (a.1.toNat * a.2.1.toNat) (onN (gaO a) least), lst (a.1.toNat * a.2.1.toNat) (inN (flD a.1.toNat a.2.1.toNat (hts a)).to (onN (gaO a) least) (a.1.toNat * a.2.1.toNat)))
set_option maxHeartbeats 4000000 in
theorem streams_one (E : Errs) (a : Ras) (least : Int) (hl : a.2.2.length ≤ 1000000000000) (K : AV → List AO → Prop)
    (hK0 : strE a least ≠ 0 → K (.tup [.fz NetT NetT.dft, .fz .raw (er E (strE a least))]) [])
    (hK1 : strE a least = 0 → K (.tup [.fz NetT (strNet a least), .fz .raw .nilIface]) []) :
    ACall Tryd.prog (G8 E) 46 [.fz RasT a, .fz int least] [] K := by
  by_cases hv : rerr a = 0
  · have R := RasN.mk' hv
    have F := flowN a.1.toNat a.2.1.toNat (hts a) R.w0
    have eF : flP a = fResP a.1.toNat a.2.1.toNat a := by unfold flP; rw [if_pos hv]
    have hln := R.len
    have hwh := R.wh
    refine acall_mk (E := envCut (G8 E) 101 0 [17]) (envCutOk _ _ _ _) Tryd.func46 rfl rfl rfl rfl rfl ?_
    (repeat' (first | exact trivial | exact fun h => h | refine And.intro ?_ ?_ | (intro hb; first | (simp at hb; done) | (simp at hb) | skip) | omega | exact rfl | exact Nat.le_refl _ | (show _ + 1 ≤ 4294967296; omega) | (dsimp only; omega) | (show (_ : Int) ≤ (_ : Int); omega) | (show _ < List.length _; simp only [List.length_set, List.length_append, List.length_take]; omega) | (show wantB _ _ = true; simp; done) | (show wantB _ _ = true; simp; omega) | (show (_ : Bool) = _; simp_all; done) | (exfalso; omega) | fail))
    refine acall_conv [.dat RasT] _ _ _ rfl ?_ (acall_frame0 rfl (flood_one E a hl _ ?_))
    · (repeat' (first | exact trivial | refine And.intro ?_ ?_ | (show _ ≤ _; omega) | (show _ ≤ _; simp; done)))
    rw [hv, eF]
    by_cases hc : least < 1
    · have e1 : strE a least = 3 := by unfold strE; rw [if_pos hv, if_pos hc]
      rw [e1] at hK0
      have hK := hK0 (by omega)
      (repeat' (first | exact trivial | exact fun h => h | refine And.intro ?_ ?_ | (intro hb; first | (simp at hb; done) | (simp at hb) | skip) | omega | exact rfl | exact Nat.le_refl _ | (show _ + 1 ≤ 4294967296; omega) | (dsimp only; omega) | (show (_ : Int) ≤ (_ : Int); omega) | (show _ < List.length _; simp only [List.length_set, List.length_append, List.length_take]; omega) | (show wantB _ _ = true; simp; done) | (show wantB _ _ = true; simp; omega) | (show (_ : Bool) = _; simp_all; done) | (exfalso; omega) | refine aRegion_auto (by decide +kernel) ?_ | fail))
      (apply exEff; focus (repeat' (first | exact ⟨rfl, rfl⟩ | exact trivial | refine And.intro ?_ ?_ | omega | exact Nat.le_refl _ | (show _ + 1 ≤ 4294967296; omega))))
      (repeat' (first | exact trivial | exact fun h => h | refine And.intro ?_ ?_ | (intro hb; first | (simp at hb; done) | (simp at hb) | skip) | omega | exact rfl | exact Nat.le_refl _ | (show _ + 1 ≤ 4294967296; omega) | (dsimp only; omega) | (show (_ : Int) ≤ (_ : Int); omega) | (show _ < List.length _; simp only [List.length_set, List.length_append, List.length_take]; omega) | (show wantB _ _ = true; simp; done) | (show wantB _ _ = true; simp; omega) | (show (_ : Bool) = _; simp_all; done) | (exfalso; omega) | refine aRegion_auto (by decide +kernel) ?_ | fail))
      refine ⟨_, _, (REnt.conv [.dat NetT, .keep] _ rfl ?_).trans (REnt.drop ⟨rfl, rfl⟩), ?_⟩
      · (repeat' (first | exact trivial | refine And.intro ?_ ?_ | (show _ ≤ _; omega) | (show _ ≤ _; simp; done)))
      exact hK
    · have e1 : strE a least = 0 := by unfold strE; rw [if_pos hv, if_neg hc]
      have hK := hK1 e1
      unfold strNet gaO at hK
      have eFl : fResP a.1.toNat a.2.1.toNat a = (lst (a.1.toNat * a.2.1.toNat) (flD a.1.toNat a.2.1.toNat (hts a)).fill, lst (a.1.toNat * a.2.1.toNat) (fun i => wayN a.1.toNat i ((flD a.1.toNat a.2.1.toNat (hts a)).to i)), natL (flD a.1.toNat a.2.1.toNat (hts a)).ord) := rfl
      rw [eFl] at hK ⊢
      generalize (flD a.1.toNat a.2.1.toNat (hts a)).to = to at *
      generalize (flD a.1.toNat a.2.1.toNat (hts a)).ord = ord at *
      generalize lst (a.1.toNat * a.2.1.toNat) (flD a.1.toNat a.2.1.toNat (hts a)).fill = fill at *
      obtain ⟨w, hw⟩ : ∃ w, w = a.1.toNat := ⟨_, rfl⟩
      obtain ⟨h, hh⟩ : ∃ h, h = a.2.1.toNat := ⟨_, rfl⟩
      obtain ⟨n, hn⟩ : ∃ n, n = w * h := ⟨_, rfl⟩
      rw [← hw, ← hh] at R F hln hwh hK ⊢
      rw [← hn] at hln hwh hK ⊢
      (repeat' (first | exact trivial | exact fun h => h | refine And.intro ?_ ?_ | (intro hb; first | (simp at hb; done) | (simp at hb) | skip) | omega | exact rfl | exact Nat.le_refl _ | (show _ + 1 ≤ 4294967296; omega) | (dsimp only; omega) | (show (_ : Int) ≤ (_ : Int); omega) | (show _ < List.length _; simp only [List.length_set, List.length_append, List.length_take]; omega) | (show wantB _ _ = true; simp; done) | (show wantB _ _ = true; simp; omega) | (show (_ : Bool) = _; simp_all; done) | (exfalso; omega) | fail))
      let bA : AO := .box [.fz int a.1, .fz int a.2.1, .fz (.list int) a.2.2]
      let bN : AO := .box [.nilSl, .nilSl, .nilSl, .nilSl, .nilSl]
      let bF : AO := .box [.fz (.list int) fill, .fz (.list int) (lst n (fun i => wayN w i (to i))), .fz (.list int) (natL ord)]
      let rm : AO := .room
      let Z1 : AO := .row .bool (List.replicate a.2.2.length false)
      let Z2 : AO := .row int (List.replicate a.2.2.length 0)
      let B1 : AO := .box [.fz (.list int) fill, .fz (.list int) (lst n (fun i => wayN w i (to i))), .fz (.list int) (natL ord), .ref 5 0 a.2.2.length, .ref 3 0 a.2.2.length]
      (repeat' (first | exact trivial | exact fun h => h | refine And.intro ?_ ?_ | (intro hb; first | (simp at hb; done) | (simp at hb) | skip) | omega | exact rfl | exact Nat.le_refl _ | (show _ + 1 ≤ 4294967296; omega) | (dsimp only; omega) | (show (_ : Int) ≤ (_ : Int); omega) | (show _ < List.length _; simp only [List.length_set, List.length_append, List.length_take]; omega) | (show wantB _ _ = true; simp; done) | (show wantB _ _ = true; simp; omega) | (show (_ : Bool) = _; simp_all; done) | (exfalso; omega) | fail))
      refine aRegion_open 2 (by decide +kernel) ?_
      (repeat' (first | exact trivial | exact fun h => h | refine And.intro ?_ ?_ | (intro hb; first | (simp at hb; done) | (simp at hb) | skip) | omega | exact rfl | exact Nat.le_refl _ | (show _ + 1 ≤ 4294967296; omega) | (dsimp only; omega) | (show (_ : Int) ≤ (_ : Int); omega) | (show _ < List.length _; simp only [List.length_set, List.length_append, List.length_take]; omega) | (show wantB _ _ = true; simp; done) | (show wantB _ _ = true; simp; omega) | (show (_ : Bool) = _; simp_all; done) | (exfalso; omega) | refine aRegion_auto (by decide +kernel) ?_ | fail))
      refine eff_is (.ref 5 0 a.2.2.length) [bA, bN, bF, rm, rm, Z1] ?_
      (repeat' (first | exact trivial | exact fun h => h | refine And.intro ?_ ?_ | (intro hb; first | (simp at hb; done) | (simp at hb) | skip) | omega | exact rfl | exact Nat.le_refl _ | (show _ + 1 ≤ 4294967296; omega) | (dsimp only; omega) | (show (_ : Int) ≤ (_ : Int); omega) | (show _ < List.length _; simp only [List.length_set, List.length_append, List.length_take]; omega) | (show wantB _ _ = true; simp; done) | (show wantB _ _ = true; simp; omega) | (show (_ : Bool) = _; simp_all; done) | (exfalso; omega) | refine aRegion_auto (by decide +kernel) ?_ | fail))
      refine eff_is (.ref 3 0 a.2.2.length) [bA, bN, bF, Z2, rm, Z1] ?_
      (repeat' (first | exact trivial | exact fun h => h | refine And.intro ?_ ?_ | (intro hb; first | (simp at hb; done) | (simp at hb) | skip) | omega | exact rfl | exact Nat.le_refl _ | (show _ + 1 ≤ 4294967296; omega) | (dsimp only; omega) | (show (_ : Int) ≤ (_ : Int); omega) | (show _ < List.length _; simp only [List.length_set, List.length_append, List.length_take]; omega) | (show wantB _ _ = true; simp; done) | (show wantB _ _ = true; simp; omega) | (show (_ : Bool) = _; simp_all; done) | (exfalso; omega) | refine aRegion_auto (by decide +kernel) ?_ | fail))
      refine eff_is (.ptr 4 0) [bA, bN, bF, Z2, bN, Z1] ?_
      (repeat' (first | exact trivial | exact fun h => h | refine And.intro ?_ ?_ | (intro hb; first | (simp at hb; done) | (simp at hb) | skip) | omega | exact rfl | exact Nat.le_refl _ | (show _ + 1 ≤ 4294967296; omega) | (dsimp only; omega) | (show (_ : Int) ≤ (_ : Int); omega) | (show _ < List.length _; simp only [List.length_set, List.length_append, List.length_take]; omega) | (show wantB _ _ = true; simp; done) | (show wantB _ _ = true; simp; omega) | (show (_ : Bool) = _; simp_all; done) | (exfalso; omega) | refine aRegion_auto (by decide +kernel) ?_ | fail))
      refine eff_is .unk [bA, bN, bF, Z2, B1, Z1] ?_
      refine ⟨[(0, [bA, bN, bF, rm, rm]), (16, [bA, bN, bF, rm, rm, Z1]), (256, [bA, bN, bF, Z2, rm]), (1024, [bA, bN, bF, rm, bN]), (272, [bA, bN, bF, Z2, rm, Z1]), (1040, [bA, bN, bF, rm, bN, Z1]), (1280, [bA, bN, bF, Z2, bN]), (1296, [bA, bN, bF, Z2, bN, Z1]), (3344, [bA, bN, bF, Z2, B1, Z1])], rfl, rfl, ?_, ?_⟩
      · (repeat' (first | refine And.intro ?_ ?_ | exact trivial | exact rfl | omega))
        all_goals first
          | (refine view_of [0, 1, 2, 3, 4, 5] rfl ?_ rfl rfl; (repeat' (first | exact trivial | exact rfl | refine And.intro ?_ ?_)); done)
          | (refine view_of [0, 1, 2, 5, 4] rfl ?_ rfl rfl; (repeat' (first | exact trivial | exact rfl | refine And.intro ?_ ?_)); done)
          | (refine view_of [0, 1, 2, 3, 5] rfl ?_ rfl rfl; (repeat' (first | exact trivial | exact rfl | refine And.intro ?_ ?_)); done)
          | (refine view_of [0, 1, 2, 6, 4, 5] rfl ?_ rfl rfl; (repeat' (first | exact trivial | exact rfl | refine And.intro ?_ ?_)); done)
          | (refine view_of [0, 1, 2, 3, 6, 5] rfl ?_ rfl rfl; (repeat' (first | exact trivial | exact rfl | refine And.intro ?_ ?_)); done)
      (repeat' (first | exact trivial | exact fun h => h | refine And.intro ?_ ?_ | (intro hb; first | (simp at hb; done) | (simp at hb) | skip) | omega | exact rfl | exact Nat.le_refl _ | (show _ + 1 ≤ 4294967296; omega) | (dsimp only; omega) | (show (_ : Int) ≤ (_ : Int); omega) | (show _ < List.length _; simp only [List.length_set, List.length_append, List.length_take]; omega) | (show wantB _ _ = true; simp; done) | (show wantB _ _ = true; simp; omega) | (show (_ : Bool) = _; simp_all; done) | (exfalso; omega) | refine aRegion_auto (by decide +kernel) ?_ | fail))
      have n0 : 0 < n := by rw [hn]; exact Nat.mul_pos R.w0 R.h0
      have hO := fun k => lst_len n (oneK k)
      refine ⟨Nat, fun k => ⟨[(1, .fz int least), (2, .ptr 0 0), (4, .ptr 1 0), (6, .ptr 2 0), (8, .ptr 4 0), (9, .ref 6 0 n), (43, .fz int n), (44, .fz int k)], [bA, bN, bF, .row int (lst n (fun _ => 0)), .box [.fz (.list int) fill, .fz (.list int) (lst n (fun i => wayN w i (to i))), .fz (.list int) (natL ord), .ref 5 0 n, .ref 3 0 n], .row .bool (lsb n (fun _ => false)), .row int (lst n (oneK k))]⟩, fun k => k ≤ n, fun k => n - k, 0, Nat.zero_le _, Ent.sub ?_ ?_, ?_⟩
      · show [bA, bN, bF, .row int (List.replicate a.2.2.length 0), .box [_, _, _, .ref 5 0 a.2.2.length, .ref 3 0 a.2.2.length], .row .bool (List.replicate a.2.2.length false), .row int (List.replicate a.2.2.length 0)] = _
        rw [hln, lst_zero, lsb_zero]
        rfl
      · rw [hln]; (repeat' (first | exact trivial | exact rfl | refine And.intro ?_ ?_))
      intro k hk
      have hOk := hO k
      by_cases hkn : k < n
      · (repeat' (first | exact trivial | exact fun h => h | refine And.intro ?_ ?_ | (intro hb; first | (simp at hb; done) | (simp at hb) | skip) | omega | exact rfl | exact Nat.le_refl _ | (show _ + 1 ≤ 4294967296; omega) | (dsimp only; omega) | (show (_ : Int) ≤ (_ : Int); omega) | (show _ < List.length _; simp only [List.length_set, List.length_append, List.length_take]; omega) | (show wantB _ _ = true; simp; done) | (show wantB _ _ = true; simp; omega) | (show (_ : Bool) = _; simp_all; done) | (exfalso; omega) | refine aRegion_auto (by decide +kernel) ?_ | fail))
        refine ⟨k + 1, by show k + 1 ≤ n; omega, by show n - (k + 1) < n - k; omega, Ent.sub ?_ ?_⟩
        · (repeat' (first | exact rfl | refine cons_eq ?_ ?_))
          refine row_set1 (k := k) (f := oneK k) (g := oneK (k + 1)) 1 rfl fun i hi => ?_
          unfold oneK
          by_cases e : i = k
          · rw [if_pos e, if_pos (by omega)]
          · rw [if_neg e]
            by_cases e2 : i < k
            · rw [if_pos e2, if_pos (by omega)]
            · rw [if_neg e2, if_neg (by omega)]
        · (repeat' (first | exact trivial | exact rfl | refine And.intro ?_ ?_))
      · have hke : k = n := by omega
        subst hke
        have eO : lst k (oneK k) = lst k (fun _ => 1) := lst_congr fun i hi => by unfold oneK; rw [if_pos hi]
        (repeat' (first | exact trivial | exact fun h => h | refine And.intro ?_ ?_ | (intro hb; first | (simp at hb; done) | (simp at hb) | skip) | omega | exact rfl | exact Nat.le_refl _ | (show _ + 1 ≤ 4294967296; omega) | (dsimp only; omega) | (show (_ : Int) ≤ (_ : Int); omega) | (show _ < List.length _; simp only [List.length_set, List.length_append, List.length_take]; omega) | (show wantB _ _ = true; simp; done) | (show wantB _ _ = true; simp; omega) | (show (_ : Bool) = _; simp_all; done) | (exfalso; omega) | fail))
        refine acall_conv [.dat RasT, .dat FT, .dat (.list int)] _ _ _ rfl ?_ (acall_frame0 rfl (acall_arg (gather_any _ a R F fill (fun _ => 1) (fun m j hm hj => F.ga_bd R.wh (rain := fun _ => 1) (fun u hu => by omega) m j hm hj) _ ?_) (by rw [List.drop_zero, List.take_of_length_le (by omega), eO, ← hn])))
        · (repeat' (first | exact trivial | refine And.intro ?_ ?_ | (show _ ≤ _; omega) | (show _ ≤ _; simp; done)))
        rw [← hn]
        have hbd := fun j (hj : j < k) => F.ga_bd R.wh (rain := fun _ => 1) (fun u hu => by omega) k j (by omega) (by omega)
        generalize hga : gaN to ord (fun _ => 1) k = ga at *
        (repeat' (first | exact trivial | exact fun h => h | refine And.intro ?_ ?_ | (intro hb; first | (simp at hb; done) | (simp at hb) | skip) | omega | exact rfl | exact Nat.le_refl _ | (show _ + 1 ≤ 4294967296; omega) | (dsimp only; omega) | (show (_ : Int) ≤ (_ : Int); omega) | (show _ < List.length _; simp only [List.length_set, List.length_append, List.length_take]; omega) | (show wantB _ _ = true; simp; done) | (show wantB _ _ = true; simp; omega) | (show (_ : Bool) = _; simp_all; done) | (exfalso; omega) | fail))
        obtain ⟨on, hon⟩ : ∃ on, on = onN ga least := ⟨_, rfl⟩
        have hG := lst_len k ga
        have hS := fun i => lsb_len k (sN on i)
        have hI := fun i => lst_len k (inN to on i)
        have hL := lst_len k (fun i => wayN w i (to i))
        refine ⟨Nat, fun i => ⟨[(1, .fz int least), (2, .ptr 0 0), (4, .ptr 1 0), (6, .ptr 2 0), (8, .ptr 4 0), (54, .ref 7 0 k), (55, .fz int k), (56, .fz int i)], [bA, bN, bF, .row int (lst k (inN to on i)), .box [.fz (.list int) fill, .fz (.list int) (lst k (fun i => wayN w i (to i))), .fz (.list int) (natL ord), .ref 5 0 k, .ref 3 0 k], .row .bool (lsb k (sN on i)), .dead, .row int (lst k ga)]⟩, fun i => i ≤ k, fun i => k - i, 0, Nat.zero_le _, Ent.sub ?_ ?_, ?_⟩
        · (repeat' (first | exact rfl | refine cons_eq ?_ ?_))
        · (repeat' (first | exact trivial | exact rfl | refine And.intro ?_ ?_))
        intro i hi
        have hSi := hS i
        have hIi := hI i
        by_cases hik : i < k
        · have q1 : List.getD (lst k ga) (0 + Int.toNat (i : Int)) int.dft = ga i := by rw [Nat.zero_add, Int.toNat_natCast]; exact lst_at _ hik
          have eS : List.set (lsb k (sN on i)) (0 + Int.toNat (i : Int)) (decide (least ≤ ga i)) = lsb k (sN on (i + 1)) := by
            rw [Nat.zero_add, Int.toNat_natCast, lsb_set]
            refine lsb_congr fun j hj => ?_
            unfold sN
            by_cases e : j = i
            · rw [if_pos e, if_pos (by omega), e, hon]; rfl
            · rw [if_neg e]
              by_cases e2 : j < i
              · rw [if_pos e2, if_pos (by omega)]
              · rw [if_neg e2, if_neg (by omega)]
          have q2 : List.getD (lsb k (sN on (i + 1))) (0 + Int.toNat (i : Int)) Ty.bool.dft = on i := by
            rw [Nat.zero_add, Int.toNat_natCast]
            refine (lsb_at _ hik).trans ?_
            unfold sN
            rw [if_pos (by omega)]
          have g2 : List.getD (lst k (fun i => wayN w i (to i))) (Int.toNat (i : Int)) int.dft = wayN w i (to i) := lst_at _ hik
          (repeat' (first | exact trivial | exact fun h => h | refine And.intro ?_ ?_ | (intro hb; first | (simp at hb; done) | (simp at hb) | skip) | omega | exact rfl | exact Nat.le_refl _ | (show _ + 1 ≤ 4294967296; omega) | (dsimp only; omega) | (show (_ : Int) ≤ (_ : Int); omega) | (show _ < List.length _; simp only [List.length_set, List.length_append, List.length_take]; omega) | (show wantB _ _ = true; simp; done) | (show wantB _ _ = true; simp; omega) | (show (_ : Bool) = _; simp_all; done) | (exfalso; omega) | refine aRegion_auto (by decide +kernel) ?_ | fail))
          refine ⟨[(1, .fz int least), (2, .ptr 0 0), (4, .ptr 1 0), (6, .ptr 2 0), (8, .ptr 4 0), (11, .fz int i), (54, .ref 7 0 k), (55, .fz int k), (56, .fz int i)], [bA, bN, bF, .row int (lst k (inN to on i)), .box [.fz (.list int) fill, .fz (.list int) (lst k (fun i => wayN w i (to i))), .fz (.list int) (natL ord), .ref 5 0 k, .ref 3 0 k], .row .bool (lsb k (sN on (i + 1))), .dead, .row int (lst k ga)], Ent.sub ?_ ?_, ?_⟩
          · (repeat' (first | exact rfl | refine cons_eq ?_ ?_))
            rw [← eS, ← q1]
          · (repeat' (first | exact trivial | exact rfl | refine And.intro ?_ ?_))
          clear eS q1
          have hS1 := hS (i + 1)
          have q5 : (lsb k (sN on (i + 1)))[i]?.getD Ty.bool.dft = on i := by rw [← q2, Nat.zero_add, Int.toNat_natCast]; simp
          have g5 : (lst k (fun i => wayN w i (to i)))[i]?.getD int.dft = wayN w i (to i) := lst_get _ hik
          have q3 : ∀ j, j < k → List.getD (lst k (inN to on i)) (0 + Int.toNat ((j : Nat) : Int)) int.dft = inN to on i j := fun j hj => by rw [Nat.zero_add, Int.toNat_natCast]; exact lst_at _ hj
          have q4 : ∀ j, inN to on (i + 1) j = if (on i = true ∧ to i ≠ i) ∧ j = to i then inN to on i j + 1 else inN to on i j := fun j => rfl
          by_cases hoi : on i = true
          · by_cases hto : to i = i
            · have hw8 : wayN w i (to i) = 8 := by rw [hto, way_self]
              rw [hoi] at q2
              rw [hw8] at g2
              have eI : lst k (inN to on (i + 1)) = lst k (inN to on i) := lst_congr fun j hj => by rw [q4, if_neg (fun x => x.1.2 hto)]
              rw [hw8] at g5
              (repeat' (first | exact trivial | exact fun h => h | refine And.intro ?_ ?_ | (intro hb; first | (simp at hb; done) | (simp at hb) | skip) | omega | exact rfl | exact Nat.le_refl _ | (show _ + 1 ≤ 4294967296; omega) | (dsimp only; omega) | (show (_ : Int) ≤ (_ : Int); omega) | (show _ < List.length _; simp only [List.length_set, List.length_append, List.length_take]; omega) | (show wantB _ _ = true; simp; done) | (show wantB _ _ = true; simp; omega) | (show (_ : Bool) = _; simp_all; done) | (exfalso; omega) | refine aRegion_auto (by decide +kernel) ?_ | fail))
              refine ⟨i + 1, by show i + 1 ≤ k; omega, by show k - (i + 1) < k - i; omega, Ent.sub ?_ ?_⟩
              · rw [eI]
              · (repeat' (first | exact trivial | exact rfl | refine And.intro ?_ ?_))
            · obtain ⟨v, hv8, hwv, hnb⟩ := way_to (w := w) (h := h) (i := i) (t := to i) (by omega) (by have := F.lt i (by omega); omega) (touchN_symm (F.touch i (by omega) hto))
              rw [hoi] at q2
              have htn := F.lt i (by omega)
              have b1 := inN_bd (to := to) (on := on) i (to i)
              have q3' := q3 (to i) (by omega)
              rw [hwv] at g2 g5
              rw [hoi] at q5
              (repeat' (first | exact trivial | exact fun h => h | refine And.intro ?_ ?_ | (intro hb; first | (simp at hb; done) | (simp at hb) | skip) | omega | exact rfl | exact Nat.le_refl _ | (show _ + 1 ≤ 4294967296; omega) | (dsimp only; omega) | (show (_ : Int) ≤ (_ : Int); omega) | (show _ < List.length _; simp only [List.length_set, List.length_append, List.length_take]; omega) | (show wantB _ _ = true; simp; done) | (show wantB _ _ = true; simp; omega) | (show (_ : Bool) = _; simp_all; done) | (exfalso; omega) | refine aRegion_auto (by decide +kernel) ?_ | fail))
              · rw [g2]
                apply exEff
                · refine acall_conv [.dat RasT, .keep, .keep] _ _ _ rfl trivial (acall_frame0 rfl (neighbour_any _ a R i v (by omega) hv8 _ (fun u hu => ?_) (fun hnone => ?_)))
                  · rw [hnb] at hu; cases hu; exact ⟨rfl, rfl⟩
                  · rw [hnb] at hnone; cases hnone
                (repeat' (first | exact trivial | exact fun h => h | refine And.intro ?_ ?_ | (intro hb; first | (simp at hb; done) | (simp at hb) | skip) | omega | exact rfl | exact Nat.le_refl _ | (show _ + 1 ≤ 4294967296; omega) | (dsimp only; omega) | (show (_ : Int) ≤ (_ : Int); omega) | (show _ < List.length _; simp only [List.length_set, List.length_append, List.length_take]; omega) | (show wantB _ _ = true; simp; done) | (show wantB _ _ = true; simp; omega) | (show (_ : Bool) = _; simp_all; done) | (exfalso; omega) | refine aRegion_auto (by decide +kernel) ?_ | fail))
                refine ⟨i + 1, by show i + 1 ≤ k; omega, by show k - (i + 1) < k - i; omega, Ent.sub ?_ ?_⟩
                · (repeat' (first | exact rfl | refine cons_eq ?_ ?_))
                  refine row_set1 (k := to i) (f := inN to on i) (g := inN to on (i + 1)) (inN to on i (to i) + 1) ?_ fun j hj => ?_
                  · show List.getD (lst k (inN to on i)) (0 + Int.toNat ((to i : Nat) : Int)) int.dft + 1 = _
                    rw [q3']
                  · rw [q4]
                    by_cases e : j = to i
                    · rw [if_pos e, if_pos ⟨⟨hoi, hto⟩, e⟩, e]
                    · rw [if_neg e, if_neg (fun x => e x.2)]
                · (repeat' (first | exact trivial | exact rfl | refine And.intro ?_ ?_))
              · exfalso
                have := hb q5
                omega
          · have hoi' : on i = false := by simpa using hoi
            rw [hoi'] at q2
            have eI : lst k (inN to on (i + 1)) = lst k (inN to on i) := lst_congr fun j hj => by rw [q4, if_neg (fun x => hoi x.1.1)]
            rw [hoi'] at q5
            (repeat' (first | exact trivial | exact fun h => h | refine And.intro ?_ ?_ | (intro hb; first | (simp at hb; done) | (simp at hb) | skip) | omega | exact rfl | exact Nat.le_refl _ | (show _ + 1 ≤ 4294967296; omega) | (dsimp only; omega) | (show (_ : Int) ≤ (_ : Int); omega) | (show _ < List.length _; simp only [List.length_set, List.length_append, List.length_take]; omega) | (show wantB _ _ = true; simp; done) | (show wantB _ _ = true; simp; omega) | (show (_ : Bool) = _; simp_all; done) | (exfalso; omega) | refine aRegion_auto (by decide +kernel) ?_ | fail))
            · have := q5.symm.trans hb.1
              cases this
            · (repeat' (first | exact trivial | exact fun h => h | refine And.intro ?_ ?_ | (intro hb; first | (simp at hb; done) | (simp at hb) | skip) | omega | exact rfl | exact Nat.le_refl _ | (show _ + 1 ≤ 4294967296; omega) | (dsimp only; omega) | (show (_ : Int) ≤ (_ : Int); omega) | (show _ < List.length _; simp only [List.length_set, List.length_append, List.length_take]; omega) | (show wantB _ _ = true; simp; done) | (show wantB _ _ = true; simp; omega) | (show (_ : Bool) = _; simp_all; done) | (exfalso; omega) | refine aRegion_auto (by decide +kernel) ?_ | fail))
              refine ⟨i + 1, by show i + 1 ≤ k; omega, by show k - (i + 1) < k - i; omega, Ent.sub ?_ ?_⟩
              · rw [eI]
              · (repeat' (first | exact trivial | exact rfl | refine And.intro ?_ ?_))
        · have hike : i = k := by omega
          have eS : lsb k (sN on i) = lsb k on := lsb_congr fun j hj => by unfold sN; rw [if_pos (by omega)]
          rw [← hon] at hK
          rw [hike] at eS hIi
          subst hike
          (repeat' (first | exact trivial | exact fun h => h | refine And.intro ?_ ?_ | (intro hb; first | (simp at hb; done) | (simp at hb) | skip) | omega | exact rfl | exact Nat.le_refl _ | (show _ + 1 ≤ 4294967296; omega) | (dsimp only; omega) | (show (_ : Int) ≤ (_ : Int); omega) | (show _ < List.length _; simp only [List.length_set, List.length_append, List.length_take]; omega) | (show wantB _ _ = true; simp; done) | (show wantB _ _ = true; simp; omega) | (show (_ : Bool) = _; simp_all; done) | (exfalso; omega) | refine aRegion_auto (by decide +kernel) ?_ | fail))
          refine ⟨_, _, (REnt.conv [.dat NetT, .keep] _ rfl ?_).trans (REnt.drop ⟨rfl, rfl⟩), ?_⟩
          · (repeat' (first | exact trivial | refine And.intro ?_ ?_ | (show _ ≤ _; omega) | (show _ ≤ _; simp; done)))
            all_goals trace_state
          · refine (congrArg (fun l => K (.tup [.fz NetT l, .fz .raw .nilIface]) []) ?_).mp hK
            rw [eS, List.drop_zero, List.drop_zero, List.take_of_length_le (by rw [lsb_len]; exact Nat.le_refl _), List.take_of_length_le (by rw [lst_len]; exact Nat.le_refl _)]
  · have h4 := rerr_in a
    have e1 : strE a least = rerr a := by unfold strE; rw [if_neg hv]
    rw [e1] at hK0
    have hK := hK0 hv
    refine acall_mk (E := envAt (G8 E) 101 0) (envOk _ _ _) Tryd.func46 rfl rfl rfl rfl rfl ?_
    (repeat' (first | exact trivial | exact fun h => h | refine And.intro ?_ ?_ | (intro hb; first | (simp at hb; done) | (simp at hb) | skip) | omega | exact rfl | exact Nat.le_refl _ | (show _ + 1 ≤ 4294967296; omega) | (dsimp only; omega) | (show (_ : Int) ≤ (_ : Int); omega) | (show _ < List.length _; simp only [List.length_set, List.length_append, List.length_take]; omega) | (show wantB _ _ = true; simp; done) | (show wantB _ _ = true; simp; omega) | (show (_ : Bool) = _; simp_all; done) | (exfalso; omega) | fail))
    refine acall_conv [.dat RasT] _ _ _ rfl trivial (acall_frame0 rfl (flood_one E a hl _ ?_))
    obtain h | h | h | h : rerr a = 1 ∨ rerr a = 2 ∨ rerr a = 3 ∨ rerr a = 4 := by omega
    all_goals
      rw [h] at hK ⊢
      (repeat' (first | exact trivial | exact fun h => h | refine And.intro ?_ ?_ | (intro hb; first | (simp at hb; done) | (simp at hb) | skip) | omega | exact rfl | exact Nat.le_refl _ | (show _ + 1 ≤ 4294967296; omega) | (dsimp only; omega) | (show (_ : Int) ≤ (_ : Int); omega) | (show _ < List.length _; simp only [List.length_set, List.length_append, List.length_take]; omega) | (show wantB _ _ = true; simp; done) | (show wantB _ _ = true; simp; omega) | (show (_ : Bool) = _; simp_all; done) | (exfalso; omega) | refine aRegion_auto (by decide +kernel) ?_ | fail))
      refine ⟨_, _, (REnt.conv [.dat NetT, .keep] _ rfl ?_).trans (REnt.drop ⟨rfl, rfl⟩), ?_⟩
      · (repeat' (first | exact trivial | refine And.intro ?_ ?_ | (show _ ≤ _; omega) | (show _ ≤ _; simp; done)))
      exact hK
/-- the program's net, in one piece -/
def strQ (a : Ras) (least : Int) : NetT.den := if strE a least = 0 then strNet a least else NetT.dft
theorem streams_two (E : Errs) (a : Ras) (least : Int) (hl : a.2.2.length ≤ 1000000000000) (K : AV → List AO → Prop) (hK : K (.tup [.fz NetT (strQ a least), .fz .raw (er E (strE a least))]) []) :
    ACall Tryd.prog (G8 E) 46 [.fz RasT a, .fz int least] [] K := by
  refine streams_one E a least hl K (fun hne => ?_) (fun h0 => ?_)
  · unfold strQ at hK
    rw [if_neg hne] at hK
    exact hK
  · unfold strQ at hK
    rw [if_pos h0, h0] at hK
    exact hK
end Go.Proofs.YtepkknjncpbahaaDoor
/-
  Sorting numbers: less, insertion.
-/
namespace Go.Proofs.YtepkknjncpbahaaDoor
open Go Go.Ab
set_option maxRecDepth 100000
def ltI (x y : Int) : Bool := decide (x < y)
theorem ltI_ok : Pdq.LtOk ltI := ⟨fun x y h => by unfold ltI at *; simp at *; omega, fun x y z h1 h2 => by unfold ltI at *; simp at *; omega⟩
theorem isNaN_any (G : List (Nat × Value)) (x : Int) (K : AV → List AO → Prop) (hK : K (.fz .bool false) []) : ACall Tryd.prog G 94 [.fz int x] [] K := by
  refine acall_mk (E := envAt G 6 0) (envOk _ _ _) Tryd.func94 rfl rfl rfl rfl rfl ?_
  (repeat' (first | exact trivial | exact fun h => h | refine And.intro ?_ ?_ | (intro hb; first | (simp at hb; done) | (simp at hb) | skip) | omega | exact rfl | exact Nat.le_refl _ | (show _ + 1 ≤ 4294967296; omega) | (dsimp only; omega) | (show (_ : Int) ≤ (_ : Int); omega) | (show _ < List.length _; simp only [List.length_set, List.length_append, List.length_take]; omega) | (show wantB _ _ = true; simp; done) | (show wantB _ _ = true; simp; omega) | (show (_ : Bool) = _; simp_all; done) | (exfalso; omega) | refine aRegion_auto (by decide +kernel) ?_ | refine ⟨_, _, REnt.drop ⟨rfl, rfl⟩, ?_⟩ | fail))
  exact kbl hK (by simp)
theorem less_int (G : List (Nat × Value)) (x y : Int) (K : AV → List AO → Prop) (hK : K (.fz .bool (ltI x y)) []) : ACall Tryd.prog G 84 [.fz int x, .fz int y] [] K := by
  refine acall_mk (E := envAt G 17 0) (envOk _ _ _) Tryd.func84 rfl rfl rfl rfl rfl ?_
  (repeat' (first | exact trivial | exact fun h => h | refine And.intro ?_ ?_ | (intro hb; first | (simp at hb; done) | (simp at hb) | skip) | omega | exact rfl | exact Nat.le_refl _ | (show _ + 1 ≤ 4294967296; omega) | (dsimp only; omega) | (show (_ : Int) ≤ (_ : Int); omega) | (show _ < List.length _; simp only [List.length_set, List.length_append, List.length_take]; omega) | (show wantB _ _ = true; simp; done) | (show wantB _ _ = true; simp; omega) | (show (_ : Bool) = _; simp_all; done) | (exfalso; omega) | refine aRegion_auto (by decide +kernel) ?_ | refine ⟨_, _, REnt.drop ⟨rfl, rfl⟩, ?_⟩ | fail))
  refine acall_frame0 rfl (isNaN_any _ x _ ?_)
  (repeat' (first | exact trivial | exact fun h => h | refine And.intro ?_ ?_ | (intro hb; first | (simp at hb; done) | (simp at hb) | skip) | omega | exact rfl | exact Nat.le_refl _ | (show _ + 1 ≤ 4294967296; omega) | (dsimp only; omega) | (show (_ : Int) ≤ (_ : Int); omega) | (show _ < List.length _; simp only [List.length_set, List.length_append, List.length_take]; omega) | (show wantB _ _ = true; simp; done) | (show wantB _ _ = true; simp; omega) | (show (_ : Bool) = _; simp_all; done) | (exfalso; omega) | refine aRegion_auto (by decide +kernel) ?_ | refine ⟨_, _, REnt.drop ⟨rfl, rfl⟩, ?_⟩ | fail))
  exact hK
theorem kal {K : AV → List AO → Prop} {l l' : List Int} (h : K (.tup []) [.row int l]) (e : l = l') : K (.tup []) [.row int l'] := e ▸ h
/-- a swap as it is told by two sets -/
theorem set_sw {xs : List Int} {x y : Int} {i j : Nat} {u v : Int} (hx : Int.toNat x = i) (hy : Int.toNat y = j) (hu : u = xs.getD j 0) (hv : v = xs.getD i 0) : List.set (List.set xs (0 + Int.toNat x) u) (0 + Int.toNat y) v = Pdq.sw 0 xs i j := by
  subst hu hv hx hy
  rw [Nat.zero_add, Nat.zero_add]; rfl
theorem get_at {xs : List Int} {x : Int} {i : Nat} (h : Int.toNat x = i) : List.getD xs (0 + Int.toNat x) int.dft = xs.getD i 0 := by rw [h, Nat.zero_add]; rfl
theorem get_q {xs : List Int} {i : Nat} : xs[i]?.getD int.dft = xs.getD i 0 := by rw [List.getD_eq_getElem?_getD]; rfl
set_option maxHeartbeats 4000000 in
theorem insertion_any (G : List (Nat × Value)) (xs : List Int) (n a b : Nat) (hn : xs.length = n) (hs : n ≤ 1000000000) (hab : a ≤ b) (hb : b ≤ n) (K : AV → List AO → Prop) (hK : ∀ ys, Pdq.SP 0 a b xs ys → Pdq.Srt ltI 0 a b ys → K (.tup []) [.row int ys]) :
    ACall Tryd.prog G 78 [.ref 0 0 n, .fz int a, .fz int b] [.row int xs] K := by
  refine acall_mk (E := envAt G 49 1) (envOk _ _ _) Tryd.func78 rfl rfl rfl rfl rfl ?_
  (repeat' (first | exact trivial | exact fun h => h | refine And.intro ?_ ?_ | (intro hb; first | (simp at hb; done) | (simp at hb) | skip) | omega | exact rfl | exact Nat.le_refl _ | (show _ + 1 ≤ 4294967296; omega) | (dsimp only; omega) | (show (_ : Int) ≤ (_ : Int); omega) | (show _ < List.length _; simp only [List.length_set, List.length_append, List.length_take]; omega) | (show wantB _ _ = true; simp; done) | (show wantB _ _ = true; simp; omega) | (show (_ : Bool) = _; simp_all; done) | (exfalso; omega) | refine aRegion_auto (by decide +kernel) ?_ | fail))
  refine ⟨List Int × Nat, fun x => ⟨[(0, .ref 0 0 n), (1, .fz int a), (2, .fz int b), (6, .fz int x.2)], [.row int x.1]⟩, fun x => a + 1 ≤ x.2 ∧ (x.2 ≤ b ∨ x.2 = a + 1) ∧ Pdq.SP 0 a b xs x.1 ∧ Pdq.Srt ltI 0 a x.2 x.1, fun x => b - x.2, (xs, a + 1), ⟨Nat.le_refl _, .inr rfl, .refl _, fun i j h1 h2 h3 => by omega⟩, Ent.sub rfl ?_, ?_⟩
  · (repeat' (first | exact trivial | exact rfl | refine And.intro ?_ ?_))
  rintro ⟨ys, i⟩ ⟨h1, h2, hsp, hsr⟩
  have h1 : a + 1 ≤ i := h1
  have h2 : i ≤ b ∨ i = a + 1 := h2
  have hsp : Pdq.SP 0 a b xs ys := hsp
  have hsr : Pdq.Srt ltI 0 a i ys := hsr
  have hly := hsp.len
  show awp _ _ _ ⟨[(0, .ref 0 0 n), (1, .fz int a), (2, .fz int b), (6, .fz int i)], [.row int ys]⟩
  by_cases hib : i < b
  · (repeat' (first | exact trivial | exact fun h => h | refine And.intro ?_ ?_ | (intro hb; first | (simp at hb; done) | (simp at hb) | skip) | omega | exact rfl | exact Nat.le_refl _ | (show _ + 1 ≤ 4294967296; omega) | (dsimp only; omega) | (show (_ : Int) ≤ (_ : Int); omega) | (show _ < List.length _; simp only [List.length_set, List.length_append, List.length_take]; omega) | (show wantB _ _ = true; simp; done) | (show wantB _ _ = true; simp; omega) | (show (_ : Bool) = _; simp_all; done) | (exfalso; omega) | refine aRegion_auto (by decide +kernel) ?_ | fail))
    refine ⟨List Int × Nat, fun x => ⟨[(0, .ref 0 0 n), (1, .fz int a), (2, .fz int b), (6, .fz int i), (7, .fz int x.2)], [.row int x.1]⟩, fun x => Pdq.SP 0 a b xs x.1 ∧ Pdq.InsI ltI 0 a x.2 i x.1, fun x => x.2, (ys, i), ⟨hsp, Pdq.ins_start (by omega) hsr⟩, Ent.sub rfl ?_, ?_⟩
    · (repeat' (first | exact trivial | exact rfl | refine And.intro ?_ ?_))
    clear hsp hsr hly
    rintro ⟨zs, j⟩ ⟨hsp, hin⟩
    have hsp : Pdq.SP 0 a b xs zs := hsp
    have hin : Pdq.InsI ltI 0 a j i zs := hin
    have hlz := hsp.len
    have i1 := hin.1
    have i2 := hin.2.1
    show awp _ _ _ ⟨[(0, .ref 0 0 n), (1, .fz int a), (2, .fz int b), (6, .fz int i), (7, .fz int j)], [.row int zs]⟩
    by_cases hja : a < j
    · have q1 : 0 + Int.toNat (j : Int) = j := by omega
      have q2 : 0 + Int.toNat ((j : Int) - 1) = j - 1 := by omega
      (repeat' (first | exact trivial | exact fun h => h | refine And.intro ?_ ?_ | (intro hb; first | (simp at hb; done) | (simp at hb) | skip) | omega | exact rfl | exact Nat.le_refl _ | (show _ + 1 ≤ 4294967296; omega) | (dsimp only; omega) | (show (_ : Int) ≤ (_ : Int); omega) | (show _ < List.length _; simp only [List.length_set, List.length_append, List.length_take]; omega) | (show wantB _ _ = true; simp; done) | (show wantB _ _ = true; simp; omega) | (show (_ : Bool) = _; simp_all; done) | (exfalso; omega) | refine aRegion_auto (by decide +kernel) ?_ | fail))
      apply exEff
      · refine ⟨fun _ => ?_, fun h => absurd h (by simp; omega)⟩
        (repeat' (first | refine And.intro ?_ ?_ | (show wantB _ _ = true; simp; omega)))
        refine acall_frame0 rfl (less_int _ _ _ _ ?_)
        exact ⟨rfl, rfl⟩
      (repeat' (first | exact trivial | exact fun h => h | refine And.intro ?_ ?_ | (intro hb; first | (simp at hb; done) | (simp at hb) | skip) | omega | exact rfl | exact Nat.le_refl _ | (show _ + 1 ≤ 4294967296; omega) | (dsimp only; omega) | (show (_ : Int) ≤ (_ : Int); omega) | (show _ < List.length _; simp only [List.length_set, List.length_append, List.length_take]; omega) | (show wantB _ _ = true; simp; done) | (show wantB _ _ = true; simp; omega) | (show (_ : Bool) = _; simp_all; done) | (exfalso; omega) | refine aRegion_auto (by decide +kernel) ?_ | fail))
      · (apply exEff; focus (repeat' (first | exact ⟨rfl, rfl⟩ | exact trivial | refine And.intro ?_ ?_ | omega | exact Nat.le_refl _ | (show _ + 1 ≤ 4294967296; omega))))
        (repeat' (first | exact trivial | exact fun h => h | refine And.intro ?_ ?_ | (intro hb; first | (simp at hb; done) | (simp at hb) | skip) | omega | exact rfl | exact Nat.le_refl _ | (show _ + 1 ≤ 4294967296; omega) | (dsimp only; omega) | (show (_ : Int) ≤ (_ : Int); omega) | (show _ < List.length _; simp only [List.length_set, List.length_append, List.length_take]; omega) | (show wantB _ _ = true; simp; done) | (show wantB _ _ = true; simp; omega) | (show (_ : Bool) = _; simp_all; done) | (exfalso; omega) | refine aRegion_auto (by decide +kernel) ?_ | fail))
        (apply exEff; focus (repeat' (first | exact ⟨rfl, rfl⟩ | exact trivial | refine And.intro ?_ ?_ | omega | exact Nat.le_refl _ | (show _ + 1 ≤ 4294967296; omega))))
        (repeat' (first | exact trivial | exact fun h => h | refine And.intro ?_ ?_ | (intro hb; first | (simp at hb; done) | (simp at hb) | skip) | omega | exact rfl | exact Nat.le_refl _ | (show _ + 1 ≤ 4294967296; omega) | (dsimp only; omega) | (show (_ : Int) ≤ (_ : Int); omega) | (show _ < List.length _; simp only [List.length_set, List.length_append, List.length_take]; omega) | (show wantB _ _ = true; simp; done) | (show wantB _ _ = true; simp; omega) | (show (_ : Bool) = _; simp_all; done) | (exfalso; omega) | refine aRegion_auto (by decide +kernel) ?_ | fail))
        have hlt : ltI (zs.getD j 0) (zs.getD (j - 1) 0) = true := by rw [← get_q, ← get_q]; exact hb.2
        refine ⟨(Pdq.sw 0 zs j (j - 1), j - 1), ⟨.step hsp ⟨by omega, by omega⟩ ⟨by omega, by omega⟩ (by omega), Pdq.ins_step ltI_ok hin (by omega) hja hlt⟩, by show j - 1 < j; omega, Ent.sub ?_ ?_⟩
        · (repeat' (first | exact rfl | refine cons_eq ?_ ?_))
          exact congrArg (AO.row int) (set_sw (by omega) (by omega) (get_at (by omega)) (get_at (by omega)))
        · (repeat' (first | exact trivial | exact rfl | refine And.intro ?_ ?_))
          exact congrArg (AV.fz int) (show (j : Int) - 1 = ((j - 1 : Nat) : Int) by omega)
      · have hle : Pdq.le ltI (zs.getD (j - 1) 0) (zs.getD j 0) := by
          have := hb hja
          rw [get_q, get_q] at this
          exact this
        refine ⟨(zs, i + 1), ⟨by show a + 1 ≤ i + 1; omega, .inl (by show i + 1 ≤ b; omega), hsp, Pdq.ins_end ltI_ok hin (.inr ⟨hja, hle⟩)⟩, by show b - (i + 1) < b - i; omega, Ent.sub ?_ ?_⟩
        · (repeat' (first | exact rfl | refine cons_eq ?_ ?_))
        · (repeat' (first | exact trivial | exact rfl | refine And.intro ?_ ?_))
    · (repeat' (first | exact trivial | exact fun h => h | refine And.intro ?_ ?_ | (intro hb; first | (simp at hb; done) | (simp at hb) | skip) | omega | exact rfl | exact Nat.le_refl _ | (show _ + 1 ≤ 4294967296; omega) | (dsimp only; omega) | (show (_ : Int) ≤ (_ : Int); omega) | (show _ < List.length _; simp only [List.length_set, List.length_append, List.length_take]; omega) | (show wantB _ _ = true; simp; done) | (show wantB _ _ = true; simp; omega) | (show (_ : Bool) = _; simp_all; done) | (exfalso; omega) | refine aRegion_auto (by decide +kernel) ?_ | fail))
      apply exEff
      · refine ⟨fun h => absurd h (by simp; omega), fun _ => ⟨rfl, rfl⟩⟩
      (repeat' (first | exact trivial | exact fun h => h | refine And.intro ?_ ?_ | (intro hb; first | (simp at hb; done) | (simp at hb) | skip) | omega | exact rfl | exact Nat.le_refl _ | (show _ + 1 ≤ 4294967296; omega) | (dsimp only; omega) | (show (_ : Int) ≤ (_ : Int); omega) | (show _ < List.length _; simp only [List.length_set, List.length_append, List.length_take]; omega) | (show wantB _ _ = true; simp; done) | (show wantB _ _ = true; simp; omega) | (show (_ : Bool) = _; simp_all; done) | (exfalso; omega) | refine aRegion_auto (by decide +kernel) ?_ | fail))
      refine ⟨(zs, i + 1), ⟨by show a + 1 ≤ i + 1; omega, .inl (by show i + 1 ≤ b; omega), hsp, Pdq.ins_end ltI_ok hin (.inl (by omega))⟩, by show b - (i + 1) < b - i; omega, Ent.sub ?_ ?_⟩
      · (repeat' (first | exact rfl | refine cons_eq ?_ ?_))
      · (repeat' (first | exact trivial | exact rfl | refine And.intro ?_ ?_))
  · (repeat' (first | exact trivial | exact fun h => h | refine And.intro ?_ ?_ | (intro hb; first | (simp at hb; done) | (simp at hb) | skip) | omega | exact rfl | exact Nat.le_refl _ | (show _ + 1 ≤ 4294967296; omega) | (dsimp only; omega) | (show (_ : Int) ≤ (_ : Int); omega) | (show _ < List.length _; simp only [List.length_set, List.length_append, List.length_take]; omega) | (show wantB _ _ = true; simp; done) | (show wantB _ _ = true; simp; omega) | (show (_ : Bool) = _; simp_all; done) | (exfalso; omega) | refine aRegion_auto (by decide +kernel) ?_ | fail))
    refine ⟨_, _, REnt.refl _ _ _, hK ys hsp fun p q k1 k2 k3 => hsr p q k1 k2 (by omega)⟩
end Go.Proofs.YtepkknjncpbahaaDoor
/-
  Sorting numbers: heaps.
-/
namespace Go.Proofs.YtepkknjncpbahaaDoor
open Go Go.Ab
set_option maxRecDepth 100000
/-- branches that join at a cut -/
structure Bx (c : Prop) : Prop where
  out : c
theorem merge {c g : Prop} (f : Bx c → g) (h : c) : g := f ⟨h⟩
set_option maxHeartbeats 4000000 in
theorem siftDown_any (G : List (Nat × Value)) (xs : List Int) (n lo hi f : Nat) (hn : xs.length = n) (hs : n ≤ 1000000000) (hf : f + hi ≤ n) (hlo : lo ≤ n) (hH : Pdq.Hp ltI 0 f (lo + 1) hi xs) (K : AV → List AO → Prop) (hK : ∀ ys, Pdq.SP 0 f (f + hi) xs ys → Pdq.Hp ltI 0 f lo hi ys → K (.tup []) [.row int ys]) :
    ACall Tryd.prog G 89 [.ref 0 0 n, .fz int lo, .fz int hi, .fz int f] [.row int xs] K := by
  refine acall_mk (E := envCut G 76 1 [5]) (envCutOk _ _ _ _) Tryd.func89 rfl rfl rfl rfl rfl ?_
  (repeat' (first | exact trivial | exact fun h => h | refine And.intro ?_ ?_ | (intro hb; first | (simp at hb; done) | (simp at hb) | skip) | omega | exact rfl | exact Nat.le_refl _ | (show _ + 1 ≤ 4294967296; omega) | (dsimp only; omega) | (show (_ : Int) ≤ (_ : Int); omega) | (show _ < List.length _; simp only [List.length_set, List.length_append, List.length_take]; omega) | (show wantB _ _ = true; simp; done) | (show wantB _ _ = true; simp; omega) | (show (_ : Bool) = _; simp_all; done) | (exfalso; omega) | refine aRegion_auto (by decide +kernel) ?_ | fail))
  refine ⟨List Int × Nat, fun x => ⟨[(0, .ref 0 0 n), (1, .fz int lo), (2, .fz int hi), (3, .fz int f), (8, .fz int x.2)], [.row int x.1]⟩, fun x => x.2 ≤ n ∧ Pdq.SP 0 f (f + hi) xs x.1 ∧ Pdq.SfI ltI 0 f lo hi x.2 x.1, fun x => n + 1 - x.2, (xs, lo), ⟨hlo, .refl _, Pdq.sift_start hH⟩, Ent.sub rfl ?_, ?_⟩
  · (repeat' (first | exact trivial | exact rfl | refine And.intro ?_ ?_))
  rintro ⟨ys, r⟩ ⟨hr, hsp, hsf⟩
  have hr : r ≤ n := hr
  have hsp : Pdq.SP 0 f (f + hi) xs ys := hsp
  have hsf : Pdq.SfI ltI 0 f lo hi r ys := hsf
  have hly := hsp.len
  show awp _ _ _ ⟨[(0, .ref 0 0 n), (1, .fz int lo), (2, .fz int hi), (3, .fz int f), (8, .fz int r)], [.row int ys]⟩
  by_cases hc : 2 * r + 1 < hi
  · obtain ⟨c, ec⟩ : ∃ c, c = if 2 * r + 2 < hi ∧ ltI (ys.getD (f + (2 * r + 1)) 0) (ys.getD (f + (2 * r + 2)) 0) = true then 2 * r + 2 else 2 * r + 1 := ⟨_, rfl⟩
    have hch : Pdq.ch r c := by rw [ec]; unfold Pdq.ch; split <;> omega
    have hchi : c < hi := by rw [ec]; split <;> omega
    have hmax : ∀ o, Pdq.ch r o → o < hi → Pdq.le ltI (Pdq.gf 0 f ys o) (Pdq.gf 0 f ys c) := fun o ho hoh => by
      rw [ec]
      by_cases h : 2 * r + 2 < hi ∧ ltI (ys.getD (f + (2 * r + 1)) 0) (ys.getD (f + (2 * r + 2)) 0) = true
      · rw [if_pos h]
        rcases ho with rfl | rfl
        · exact Pdq.le_of_lt ltI_ok h.2
        · exact Pdq.le_refl ltI_ok _
      · rw [if_neg h]
        rcases ho with rfl | rfl
        · exact Pdq.le_refl ltI_ok _
        · exact Pdq.not_lt fun h2 => h ⟨hoh, h2⟩
    apply merge
    · intro mc
      by_cases hc2 : 2 * r + 2 < hi
      · (repeat' (first | exact trivial | exact fun h => h | refine And.intro ?_ ?_ | (intro hb; first | (simp at hb; done) | (simp at hb) | skip) | omega | exact rfl | exact Nat.le_refl _ | (show _ + 1 ≤ 4294967296; omega) | (dsimp only; omega) | (show (_ : Int) ≤ (_ : Int); omega) | (show _ < List.length _; simp only [List.length_set, List.length_append, List.length_take]; omega) | (show wantB _ _ = true; simp; done) | (show wantB _ _ = true; simp; omega) | (show (_ : Bool) = _; simp_all; done) | (exfalso; omega) | refine aRegion_auto (by decide +kernel) ?_ | fail))
        apply exEff
        · refine ⟨fun _ => ?_, fun h => absurd h (by simp; omega)⟩
          (repeat' (first | refine And.intro ?_ ?_ | (show wantB _ _ = true; simp; omega)))
          refine acall_frame0 rfl (less_int _ _ _ _ ?_)
          exact ⟨rfl, rfl⟩
        have e1 : Int.toNat ((f : Int) + (2 * (r : Int) + 1)) = f + (2 * r + 1) := by omega
        have e2 : Int.toNat ((f : Int) + (2 * (r : Int) + 1) + 1) = f + (2 * r + 2) := by omega
        (repeat' (first | exact trivial | exact fun h => h | refine And.intro ?_ ?_ | (intro hb; first | (simp at hb; done) | (simp at hb) | skip) | omega | exact rfl | exact Nat.le_refl _ | (show _ + 1 ≤ 4294967296; omega) | (dsimp only; omega) | (show (_ : Int) ≤ (_ : Int); omega) | (show _ < List.length _; simp only [List.length_set, List.length_append, List.length_take]; omega) | (show wantB _ _ = true; simp; done) | (show wantB _ _ = true; simp; omega) | (show (_ : Bool) = _; simp_all; done) | (exfalso; omega) | refine aRegion_auto (by decide +kernel) ?_ | fail))
        · rw [e1, e2, get_q, get_q] at hb
          have e : c = 2 * r + 2 := by rw [ec, if_pos ⟨hc2, hb.2⟩]
          refine ⟨[(0, .ref 0 0 n), (1, .fz int lo), (2, .fz int hi), (3, .fz int f), (8, .fz int r), (9, .fz int c)], [.row int ys], Ent.sub rfl ?_, mc.out⟩
          rw [e]
          (repeat' (first | exact trivial | exact rfl | refine And.intro ?_ ?_))
        · rw [e1, e2, get_q, get_q] at hb
          have e : c = 2 * r + 1 := by rw [ec, if_neg (fun h => by have := hb (by omega); rw [h.2] at this; cases this)]
          refine ⟨[(0, .ref 0 0 n), (1, .fz int lo), (2, .fz int hi), (3, .fz int f), (8, .fz int r), (9, .fz int c)], [.row int ys], Ent.sub rfl ?_, mc.out⟩
          rw [e]
          (repeat' (first | exact trivial | exact rfl | refine And.intro ?_ ?_))
      · have e : c = 2 * r + 1 := by rw [ec, if_neg (fun h => hc2 h.1)]
        (repeat' (first | exact trivial | exact fun h => h | refine And.intro ?_ ?_ | (intro hb; first | (simp at hb; done) | (simp at hb) | skip) | omega | exact rfl | exact Nat.le_refl _ | (show _ + 1 ≤ 4294967296; omega) | (dsimp only; omega) | (show (_ : Int) ≤ (_ : Int); omega) | (show _ < List.length _; simp only [List.length_set, List.length_append, List.length_take]; omega) | (show wantB _ _ = true; simp; done) | (show wantB _ _ = true; simp; omega) | (show (_ : Bool) = _; simp_all; done) | (exfalso; omega) | refine aRegion_auto (by decide +kernel) ?_ | fail))
        apply exEff
        · refine ⟨fun h => absurd h (by simp; omega), fun _ => ⟨rfl, rfl⟩⟩
        (repeat' (first | exact trivial | exact fun h => h | refine And.intro ?_ ?_ | (intro hb; first | (simp at hb; done) | (simp at hb) | skip) | omega | exact rfl | exact Nat.le_refl _ | (show _ + 1 ≤ 4294967296; omega) | (dsimp only; omega) | (show (_ : Int) ≤ (_ : Int); omega) | (show _ < List.length _; simp only [List.length_set, List.length_append, List.length_take]; omega) | (show wantB _ _ = true; simp; done) | (show wantB _ _ = true; simp; omega) | (show (_ : Bool) = _; simp_all; done) | (exfalso; omega) | refine aRegion_auto (by decide +kernel) ?_ | fail))
        all_goals first | (simp; omega) | skip
        refine ⟨[(0, .ref 0 0 n), (1, .fz int lo), (2, .fz int hi), (3, .fz int f), (8, .fz int r), (9, .fz int c)], [.row int ys], Ent.sub rfl ?_, mc.out⟩
        rw [e]
        (repeat' (first | exact trivial | exact rfl | refine And.intro ?_ ?_))
    have g1 : Int.toNat ((f : Int) + (r : Int)) = f + r := by omega
    have g2 : Int.toNat ((f : Int) + (c : Int)) = f + c := by omega
    have hrc : r < c := by unfold Pdq.ch at hch; omega
    (repeat' (first | exact trivial | exact fun h => h | refine And.intro ?_ ?_ | (intro hb; first | (simp at hb; done) | (simp at hb) | skip) | omega | exact rfl | exact Nat.le_refl _ | (show _ + 1 ≤ 4294967296; omega) | (dsimp only; omega) | (show (_ : Int) ≤ (_ : Int); omega) | (show _ < List.length _; simp only [List.length_set, List.length_append, List.length_take]; omega) | (show wantB _ _ = true; simp; done) | (show wantB _ _ = true; simp; omega) | (show (_ : Bool) = _; simp_all; done) | (exfalso; omega) | refine aRegion_auto (by decide +kernel) ?_ | fail))
    apply exEff
    · (repeat' (first | refine And.intro ?_ ?_ | omega))
      refine acall_frame0 rfl (less_int _ _ _ _ ?_)
      exact ⟨rfl, rfl⟩
    (repeat' (first | exact trivial | exact fun h => h | refine And.intro ?_ ?_ | (intro hb; first | (simp at hb; done) | (simp at hb) | skip) | omega | exact rfl | exact Nat.le_refl _ | (show _ + 1 ≤ 4294967296; omega) | (dsimp only; omega) | (show (_ : Int) ≤ (_ : Int); omega) | (show _ < List.length _; simp only [List.length_set, List.length_append, List.length_take]; omega) | (show wantB _ _ = true; simp; done) | (show wantB _ _ = true; simp; omega) | (show (_ : Bool) = _; simp_all; done) | (exfalso; omega) | refine aRegion_auto (by decide +kernel) ?_ | fail))
    · rw [g1, g2, get_q, get_q] at hb
      refine ⟨_, _, REnt.refl _ _ _, hK ys hsp (Pdq.sift_stop hsf fun o h1 h2 => Pdq.le_trans ltI_ok (hmax o h1 h2) hb)⟩
    · rw [g1, g2, get_q, get_q] at hb
      (apply exEff; focus (repeat' (first | exact ⟨rfl, rfl⟩ | exact trivial | refine And.intro ?_ ?_ | omega | exact Nat.le_refl _ | (show _ + 1 ≤ 4294967296; omega))))
      (repeat' (first | exact trivial | exact fun h => h | refine And.intro ?_ ?_ | (intro hb; first | (simp at hb; done) | (simp at hb) | skip) | omega | exact rfl | exact Nat.le_refl _ | (show _ + 1 ≤ 4294967296; omega) | (dsimp only; omega) | (show (_ : Int) ≤ (_ : Int); omega) | (show _ < List.length _; simp only [List.length_set, List.length_append, List.length_take]; omega) | (show wantB _ _ = true; simp; done) | (show wantB _ _ = true; simp; omega) | (show (_ : Bool) = _; simp_all; done) | (exfalso; omega) | refine aRegion_auto (by decide +kernel) ?_ | fail))
      (apply exEff; focus (repeat' (first | exact ⟨rfl, rfl⟩ | exact trivial | refine And.intro ?_ ?_ | omega | exact Nat.le_refl _ | (show _ + 1 ≤ 4294967296; omega))))
      (repeat' (first | exact trivial | exact fun h => h | refine And.intro ?_ ?_ | (intro hb; first | (simp at hb; done) | (simp at hb) | skip) | omega | exact rfl | exact Nat.le_refl _ | (show _ + 1 ≤ 4294967296; omega) | (dsimp only; omega) | (show (_ : Int) ≤ (_ : Int); omega) | (show _ < List.length _; simp only [List.length_set, List.length_append, List.length_take]; omega) | (show wantB _ _ = true; simp; done) | (show wantB _ _ = true; simp; omega) | (show (_ : Bool) = _; simp_all; done) | (exfalso; omega) | refine aRegion_auto (by decide +kernel) ?_ | fail))
      refine ⟨(Pdq.sw 0 ys (f + r) (f + c), c), ⟨by show c ≤ n; omega, .step hsp ⟨by omega, by omega⟩ ⟨by omega, by omega⟩ (by omega), Pdq.sift_step ltI_ok hsf (by omega) hch hchi hmax hb⟩, by show n + 1 - c < n + 1 - r; omega, Ent.sub ?_ ?_⟩
      · (repeat' (first | exact rfl | refine cons_eq ?_ ?_))
        exact congrArg (AO.row int) (set_sw (by omega) (by omega) (get_at (by omega)) (get_at (by omega)))
      · (repeat' (first | exact trivial | exact rfl | refine And.intro ?_ ?_))
  · (repeat' (first | exact trivial | exact fun h => h | refine And.intro ?_ ?_ | (intro hb; first | (simp at hb; done) | (simp at hb) | skip) | omega | exact rfl | exact Nat.le_refl _ | (show _ + 1 ≤ 4294967296; omega) | (dsimp only; omega) | (show (_ : Int) ≤ (_ : Int); omega) | (show _ < List.length _; simp only [List.length_set, List.length_append, List.length_take]; omega) | (show wantB _ _ = true; simp; done) | (show wantB _ _ = true; simp; omega) | (show (_ : Bool) = _; simp_all; done) | (exfalso; omega) | refine aRegion_auto (by decide +kernel) ?_ | fail))
    refine ⟨_, _, REnt.refl _ _ _, hK ys hsp (Pdq.sift_stop hsf fun c h1 h2 => by unfold Pdq.ch at h1; omega)⟩
end Go.Proofs.YtepkknjncpbahaaDoor
/-
  Sorting numbers: heap sort, a range turned around.
-/
namespace Go.Proofs.YtepkknjncpbahaaDoor
open Go Go.Ab
set_option maxRecDepth 100000
theorem acall_with {P : Program} {G : List (Nat × Value)} {f : FuncId} {args args' : List AV} {A A' : List AO} {K : AV → List AO → Prop} (h : ACall P G f args A K) (e : args = args') (e2 : A = A') : ACall P G f args' A' K := e ▸ e2 ▸ h
set_option maxHeartbeats 4000000 in
theorem heapSort_any (G : List (Nat × Value)) (xs : List Int) (n a b : Nat) (hn : xs.length = n) (hs : n ≤ 1000000000) (hab : a ≤ b) (hb : b ≤ n) (K : AV → List AO → Prop) (hK : ∀ ys, Pdq.SP 0 a b xs ys → Pdq.Srt ltI 0 a b ys → K (.tup []) [.row int ys]) :
    ACall Tryd.prog G 79 [.ref 0 0 n, .fz int a, .fz int b] [.row int xs] K := by
  obtain ⟨hi, ehi⟩ : ∃ hi, b = a + hi := ⟨b - a, by omega⟩
  have hq : Int.tdiv ((b : Int) - (a : Int) - 1) 2 = (((hi - 1) / 2 : Nat) : Int) := by
    by_cases h0 : hi = 0
    · subst h0
      rw [show (b : Int) - a - 1 = -1 by omega]
      rfl
    · rw [Int.tdiv_eq_ediv_of_nonneg (by omega)]; omega
  refine acall_mk (E := envAt G 56 1) (envOk _ _ _) Tryd.func79 rfl rfl rfl rfl rfl ?_
  (repeat' (first | exact trivial | exact fun h => h | refine And.intro ?_ ?_ | (intro hb; first | (simp at hb; done) | (simp at hb) | skip) | omega | exact rfl | exact Nat.le_refl _ | (show _ + 1 ≤ 4294967296; omega) | (dsimp only; omega) | (show (_ : Int) ≤ (_ : Int); omega) | (show _ < List.length _; simp only [List.length_set, List.length_append, List.length_take]; omega) | (show wantB _ _ = true; simp; done) | (show wantB _ _ = true; simp; omega) | (show (_ : Bool) = _; simp_all; done) | (exfalso; omega) | refine aRegion_auto (by decide +kernel) ?_ | fail))
  refine ⟨List Int × Nat, fun x => ⟨[(0, .ref 0 0 n), (6, .fz int a), (7, .fz int 0), (8, .fz int hi), (9, .fz int ((x.2 : Int) - 1))], [.row int x.1]⟩, fun x => x.2 ≤ n + 1 ∧ Pdq.SP 0 a b xs x.1 ∧ Pdq.Hp ltI 0 a x.2 hi x.1, fun x => x.2, (xs, (hi - 1) / 2 + 1), ⟨by show _ ≤ n + 1; omega, .refl _, fun r c h1 h2 h3 => by have h1 : (hi - 1) / 2 + 1 ≤ r := h1; unfold Pdq.ch at h2; omega⟩, Ent.sub rfl ?_, ?_⟩
  · (repeat' (first | exact trivial | exact rfl | refine And.intro ?_ ?_))
    · exact congrArg (AV.fz int) (show (b : Int) - a = hi by omega)
    · exact congrArg (AV.fz int) (show Int.tdiv ((b : Int) - (a : Int) - 1) 2 = (((hi - 1) / 2 + 1 : Nat) : Int) - 1 by rw [hq]; omega)
  rintro ⟨ys, k⟩ ⟨hk, hsp, hh⟩
  have hk : k ≤ n + 1 := hk
  have hsp : Pdq.SP 0 a b xs ys := hsp
  have hh : Pdq.Hp ltI 0 a k hi ys := hh
  have hly := hsp.len
  show awp _ _ _ ⟨[(0, .ref 0 0 n), (6, .fz int a), (7, .fz int 0), (8, .fz int hi), (9, .fz int ((k : Int) - 1))], [.row int ys]⟩
  by_cases hk0 : 0 < k
  · (repeat' (first | exact trivial | exact fun h => h | refine And.intro ?_ ?_ | (intro hb; first | (simp at hb; done) | (simp at hb) | skip) | omega | exact rfl | exact Nat.le_refl _ | (show _ + 1 ≤ 4294967296; omega) | (dsimp only; omega) | (show (_ : Int) ≤ (_ : Int); omega) | (show _ < List.length _; simp only [List.length_set, List.length_append, List.length_take]; omega) | (show wantB _ _ = true; simp; done) | (show wantB _ _ = true; simp; omega) | (show (_ : Bool) = _; simp_all; done) | (exfalso; omega) | refine aRegion_auto (by decide +kernel) ?_ | fail))
    refine acall_arg (siftDown_any _ ys n (k - 1) hi a (by omega) hs (by omega) (by omega) (by rw [show k - 1 + 1 = k by omega]; exact hh) _ fun zs z1 z2 => ?_) (congrArg (fun z => [AV.ref 0 0 n, AV.fz int z, AV.fz int hi, AV.fz int a]) (show ((k - 1 : Nat) : Int) = (k : Int) - 1 by omega))
    (repeat' (first | exact trivial | exact fun h => h | refine And.intro ?_ ?_ | (intro hb; first | (simp at hb; done) | (simp at hb) | skip) | omega | exact rfl | exact Nat.le_refl _ | (show _ + 1 ≤ 4294967296; omega) | (dsimp only; omega) | (show (_ : Int) ≤ (_ : Int); omega) | (show _ < List.length _; simp only [List.length_set, List.length_append, List.length_take]; omega) | (show wantB _ _ = true; simp; done) | (show wantB _ _ = true; simp; omega) | (show (_ : Bool) = _; simp_all; done) | (exfalso; omega) | refine aRegion_auto (by decide +kernel) ?_ | fail))
    refine ⟨(zs, k - 1), ⟨by show k - 1 ≤ n + 1; omega, hsp.trans (ehi ▸ z1), z2⟩, by show k - 1 < k; omega, Ent.sub rfl ?_⟩
    (repeat' (first | exact trivial | exact rfl | refine And.intro ?_ ?_))
    exact congrArg (AV.fz int) (show (k : Int) - 1 - 1 = ((k - 1 : Nat) : Int) - 1 by omega)
  · have hk0 : k = 0 := by omega
    subst hk0
    (repeat' (first | exact trivial | exact fun h => h | refine And.intro ?_ ?_ | (intro hb; first | (simp at hb; done) | (simp at hb) | skip) | omega | exact rfl | exact Nat.le_refl _ | (show _ + 1 ≤ 4294967296; omega) | (dsimp only; omega) | (show (_ : Int) ≤ (_ : Int); omega) | (show _ < List.length _; simp only [List.length_set, List.length_append, List.length_take]; omega) | (show wantB _ _ = true; simp; done) | (show wantB _ _ = true; simp; omega) | (show (_ : Bool) = _; simp_all; done) | (exfalso; omega) | refine aRegion_auto (by decide +kernel) ?_ | fail))
    refine ⟨List Int × Nat, fun x => ⟨[(0, .ref 0 0 n), (6, .fz int a), (7, .fz int 0), (8, .fz int hi), (10, .fz int ((x.2 : Int) - 1))], [.row int x.1]⟩, fun x => x.2 ≤ hi ∧ Pdq.SP 0 a b xs x.1 ∧ Pdq.PopI ltI 0 a x.2 hi x.1, fun x => x.2, (ys, hi), ⟨Nat.le_refl _, hsp, Pdq.pop_start hh⟩, Ent.sub rfl ?_, ?_⟩
    · (repeat' (first | exact trivial | exact rfl | refine And.intro ?_ ?_))
    clear hsp hh hly
    rintro ⟨zs, k⟩ ⟨hk, hsp, hh⟩
    have hk : k ≤ hi := hk
    have hsp : Pdq.SP 0 a b xs zs := hsp
    have hh : Pdq.PopI ltI 0 a k hi zs := hh
    have hlz := hsp.len
    show awp _ _ _ ⟨[(0, .ref 0 0 n), (6, .fz int a), (7, .fz int 0), (8, .fz int hi), (10, .fz int ((k : Int) - 1))], [.row int zs]⟩
    by_cases hk0 : 0 < k
    · obtain ⟨i, rfl⟩ : ∃ i, k = i + 1 := ⟨k - 1, by omega⟩
      (repeat' (first | exact trivial | exact fun h => h | refine And.intro ?_ ?_ | (intro hb; first | (simp at hb; done) | (simp at hb) | skip) | omega | exact rfl | exact Nat.le_refl _ | (show _ + 1 ≤ 4294967296; omega) | (dsimp only; omega) | (show (_ : Int) ≤ (_ : Int); omega) | (show _ < List.length _; simp only [List.length_set, List.length_append, List.length_take]; omega) | (show wantB _ _ = true; simp; done) | (show wantB _ _ = true; simp; omega) | (show (_ : Bool) = _; simp_all; done) | (exfalso; omega) | refine aRegion_auto (by decide +kernel) ?_ | fail))
      (apply exEff; focus (repeat' (first | exact ⟨rfl, rfl⟩ | exact trivial | refine And.intro ?_ ?_ | omega | exact Nat.le_refl _ | (show _ + 1 ≤ 4294967296; omega))))
      (repeat' (first | exact trivial | exact fun h => h | refine And.intro ?_ ?_ | (intro hb; first | (simp at hb; done) | (simp at hb) | skip) | omega | exact rfl | exact Nat.le_refl _ | (show _ + 1 ≤ 4294967296; omega) | (dsimp only; omega) | (show (_ : Int) ≤ (_ : Int); omega) | (show _ < List.length _; simp only [List.length_set, List.length_append, List.length_take]; omega) | (show wantB _ _ = true; simp; done) | (show wantB _ _ = true; simp; omega) | (show (_ : Bool) = _; simp_all; done) | (exfalso; omega) | refine aRegion_auto (by decide +kernel) ?_ | fail))
      (apply exEff; focus (repeat' (first | exact ⟨rfl, rfl⟩ | exact trivial | refine And.intro ?_ ?_ | omega | exact Nat.le_refl _ | (show _ + 1 ≤ 4294967296; omega))))
      (repeat' (first | exact trivial | exact fun h => h | refine And.intro ?_ ?_ | (intro hb; first | (simp at hb; done) | (simp at hb) | skip) | omega | exact rfl | exact Nat.le_refl _ | (show _ + 1 ≤ 4294967296; omega) | (dsimp only; omega) | (show (_ : Int) ≤ (_ : Int); omega) | (show _ < List.length _; simp only [List.length_set, List.length_append, List.length_take]; omega) | (show wantB _ _ = true; simp; done) | (show wantB _ _ = true; simp; omega) | (show (_ : Bool) = _; simp_all; done) | (exfalso; omega) | refine aRegion_auto (by decide +kernel) ?_ | fail))
      have hbz : b ≤ zs.length := by omega
      obtain ⟨y1, y2⟩ := Pdq.pop_swap ltI_ok hh (by omega) (by omega)
      have hlw := Pdq.sw_len (0 : Int) zs a (a + i)
      refine acall_with (siftDown_any _ (Pdq.sw 0 zs a (a + i)) n 0 i a (by omega) hs (by omega) (by omega) y1 _ fun ws z1 z2 => ?_) ?_ ?_
      rotate_left
      · exact congrArg (fun z => [AV.ref 0 0 n, AV.fz int 0, AV.fz int z, AV.fz int a]) (show (i : Int) = ((i + 1 : Nat) : Int) - 1 by omega)
      · exact congrArg (fun l => [AO.row int l]) (set_sw (by omega) (by omega) (get_at (by omega)) (get_at (by omega))).symm
      (repeat' (first | exact trivial | exact fun h => h | refine And.intro ?_ ?_ | (intro hb; first | (simp at hb; done) | (simp at hb) | skip) | omega | exact rfl | exact Nat.le_refl _ | (show _ + 1 ≤ 4294967296; omega) | (dsimp only; omega) | (show (_ : Int) ≤ (_ : Int); omega) | (show _ < List.length _; simp only [List.length_set, List.length_append, List.length_take]; omega) | (show wantB _ _ = true; simp; done) | (show wantB _ _ = true; simp; omega) | (show (_ : Bool) = _; simp_all; done) | (exfalso; omega) | refine aRegion_auto (by decide +kernel) ?_ | fail))
      refine ⟨(ws, i), ⟨by show i ≤ hi; omega, (Pdq.SP.step (i := a) (j := a + i) hsp ⟨by omega, by omega⟩ ⟨by omega, by omega⟩ hbz).trans (z1.wide (Nat.le_refl _) (by omega) (by rw [hlw]; omega)), Pdq.pop_next z1 z2 y2⟩, by show i < i + 1; omega, Ent.sub rfl ?_⟩
      (repeat' (first | exact trivial | exact rfl | refine And.intro ?_ ?_))
      exact congrArg (AV.fz int) (show ((i + 1 : Nat) : Int) - 1 - 1 = (i : Int) - 1 by omega)
    · have hk0 : k = 0 := by omega
      subst hk0
      have he := Pdq.pop_end hh
      rw [← ehi] at he
      (repeat' (first | exact trivial | exact fun h => h | refine And.intro ?_ ?_ | (intro hb; first | (simp at hb; done) | (simp at hb) | skip) | omega | exact rfl | exact Nat.le_refl _ | (show _ + 1 ≤ 4294967296; omega) | (dsimp only; omega) | (show (_ : Int) ≤ (_ : Int); omega) | (show _ < List.length _; simp only [List.length_set, List.length_append, List.length_take]; omega) | (show wantB _ _ = true; simp; done) | (show wantB _ _ = true; simp; omega) | (show (_ : Bool) = _; simp_all; done) | (exfalso; omega) | refine aRegion_auto (by decide +kernel) ?_ | fail))
      refine ⟨_, _, REnt.refl _ _ _, hK zs hsp he⟩
/-- a range turned around: swaps within it -/
theorem reverse_any (G : List (Nat × Value)) (xs : List Int) (n a b : Nat) (hn : xs.length = n) (hs : n ≤ 1000000000) (hab : a ≤ b) (hb : b ≤ n) (K : AV → List AO → Prop) (hK : ∀ ys, Pdq.SP 0 a b xs ys → K (.tup []) [.row int ys]) :
    ACall Tryd.prog G 82 [.ref 0 0 n, .fz int a, .fz int b] [.row int xs] K := by
  refine acall_mk (E := envAt G 32 1) (envOk _ _ _) Tryd.func82 rfl rfl rfl rfl rfl ?_
  (repeat' (first | exact trivial | exact fun h => h | refine And.intro ?_ ?_ | (intro hb; first | (simp at hb; done) | (simp at hb) | skip) | omega | exact rfl | exact Nat.le_refl _ | (show _ + 1 ≤ 4294967296; omega) | (dsimp only; omega) | (show (_ : Int) ≤ (_ : Int); omega) | (show _ < List.length _; simp only [List.length_set, List.length_append, List.length_take]; omega) | (show wantB _ _ = true; simp; done) | (show wantB _ _ = true; simp; omega) | (show (_ : Bool) = _; simp_all; done) | (exfalso; omega) | refine aRegion_auto (by decide +kernel) ?_ | fail))
  refine ⟨List Int × Nat, fun x => ⟨[(0, .ref 0 0 n), (6, .fz int ((a : Int) + x.2)), (7, .fz int ((b : Int) - 1 - x.2))], [.row int x.1]⟩, fun x => (x.2 ≤ b - a) ∧ Pdq.SP 0 a b xs x.1, fun x => n - x.2, (xs, 0), ⟨Nat.zero_le _, .refl _⟩, Ent.sub rfl ?_, ?_⟩
  · (repeat' (first | exact trivial | exact rfl | refine And.intro ?_ ?_))
    all_goals first | exact congrArg (AV.fz int) (show (a : Int) = (a : Int) + ((0 : Nat) : Int) by omega) | exact congrArg (AV.fz int) (show (b : Int) - 1 = (b : Int) - 1 - ((0 : Nat) : Int) by omega)
  rintro ⟨ys, k⟩ ⟨hk, hsp⟩
  have hk : k ≤ b - a := hk
  have hsp : Pdq.SP 0 a b xs ys := hsp
  have hly := hsp.len
  show awp _ _ _ ⟨[(0, .ref 0 0 n), (6, .fz int ((a : Int) + k)), (7, .fz int ((b : Int) - 1 - k))], [.row int ys]⟩
  by_cases hk0 : (a : Int) + k < (b : Int) - 1 - k
  · (repeat' (first | exact trivial | exact fun h => h | refine And.intro ?_ ?_ | (intro hb; first | (simp at hb; done) | (simp at hb) | skip) | omega | exact rfl | exact Nat.le_refl _ | (show _ + 1 ≤ 4294967296; omega) | (dsimp only; omega) | (show (_ : Int) ≤ (_ : Int); omega) | (show _ < List.length _; simp only [List.length_set, List.length_append, List.length_take]; omega) | (show wantB _ _ = true; simp; done) | (show wantB _ _ = true; simp; omega) | (show (_ : Bool) = _; simp_all; done) | (exfalso; omega) | refine aRegion_auto (by decide +kernel) ?_ | fail))
    (apply exEff; focus (repeat' (first | exact ⟨rfl, rfl⟩ | exact trivial | refine And.intro ?_ ?_ | omega | exact Nat.le_refl _ | (show _ + 1 ≤ 4294967296; omega))))
    (repeat' (first | exact trivial | exact fun h => h | refine And.intro ?_ ?_ | (intro hb; first | (simp at hb; done) | (simp at hb) | skip) | omega | exact rfl | exact Nat.le_refl _ | (show _ + 1 ≤ 4294967296; omega) | (dsimp only; omega) | (show (_ : Int) ≤ (_ : Int); omega) | (show _ < List.length _; simp only [List.length_set, List.length_append, List.length_take]; omega) | (show wantB _ _ = true; simp; done) | (show wantB _ _ = true; simp; omega) | (show (_ : Bool) = _; simp_all; done) | (exfalso; omega) | refine aRegion_auto (by decide +kernel) ?_ | fail))
    (apply exEff; focus (repeat' (first | exact ⟨rfl, rfl⟩ | exact trivial | refine And.intro ?_ ?_ | omega | exact Nat.le_refl _ | (show _ + 1 ≤ 4294967296; omega))))
    (repeat' (first | exact trivial | exact fun h => h | refine And.intro ?_ ?_ | (intro hb; first | (simp at hb; done) | (simp at hb) | skip) | omega | exact rfl | exact Nat.le_refl _ | (show _ + 1 ≤ 4294967296; omega) | (dsimp only; omega) | (show (_ : Int) ≤ (_ : Int); omega) | (show _ < List.length _; simp only [List.length_set, List.length_append, List.length_take]; omega) | (show wantB _ _ = true; simp; done) | (show wantB _ _ = true; simp; omega) | (show (_ : Bool) = _; simp_all; done) | (exfalso; omega) | refine aRegion_auto (by decide +kernel) ?_ | fail))
    refine ⟨(Pdq.sw 0 ys (a + k) (b - 1 - k), k + 1), ⟨by show k + 1 ≤ b - a; omega, .step hsp ⟨by omega, by omega⟩ ⟨by omega, by omega⟩ (by omega)⟩, by show n - (k + 1) < n - k; omega, Ent.sub ?_ ?_⟩
    · (repeat' (first | exact rfl | refine cons_eq ?_ ?_))
      exact congrArg (AO.row int) (set_sw (by omega) (by omega) (get_at (by omega)) (get_at (by omega)))
    · (repeat' (first | exact trivial | exact rfl | refine And.intro ?_ ?_))
      all_goals first | exact congrArg (AV.fz int) (show (a : Int) + (k : Int) + 1 = (a : Int) + ((k + 1 : Nat) : Int) by omega) | exact congrArg (AV.fz int) (show (b : Int) - 1 - (k : Int) - 1 = (b : Int) - 1 - ((k + 1 : Nat) : Int) by omega)
  · (repeat' (first | exact trivial | exact fun h => h | refine And.intro ?_ ?_ | (intro hb; first | (simp at hb; done) | (simp at hb) | skip) | omega | exact rfl | exact Nat.le_refl _ | (show _ + 1 ≤ 4294967296; omega) | (dsimp only; omega) | (show (_ : Int) ≤ (_ : Int); omega) | (show _ < List.length _; simp only [List.length_set, List.length_append, List.length_take]; omega) | (show wantB _ _ = true; simp; done) | (show wantB _ _ = true; simp; omega) | (show (_ : Bool) = _; simp_all; done) | (exfalso; omega) | refine aRegion_auto (by decide +kernel) ?_ | fail))
    refine ⟨_, _, REnt.refl _ _ _, hK ys hsp⟩
end Go.Proofs.YtepkknjncpbahaaDoor
/-
  Sorting numbers: the choice of a pivot.
-/
namespace Go.Proofs.YtepkknjncpbahaaDoor
open Go Go.Ab
set_option maxRecDepth 100000
set_option maxHeartbeats 4000000 in
theorem order2_any (G : List (Nat × Value)) (xs : List Int) (n i j : Nat) (s : Int) (hn : xs.length = n) (hs : n ≤ 1000000000) (hi : i < n) (hj : j < n) (h0 : 0 ≤ s) (h1 : s ≤ 100) (K : AV → List AO → Prop) (hK : ∀ (i' j' : Nat) (s' : Int), (i' = i ∧ j' = j) ∨ (i' = j ∧ j' = i) → s ≤ s' → s' ≤ s + 1 → K (.tup [.fz int i', .fz int j']) [.row int xs, .box [.fz int s']]) :
    ACall Tryd.prog G 95 [.ref 0 0 n, .fz int i, .fz int j, .ptr 1 0] [.row int xs, .box [.fz int s]] K := by
  refine acall_mk (E := envAt G 28 2) (envOk _ _ _) Tryd.func95 rfl rfl rfl rfl rfl ?_
  (repeat' (first | exact trivial | exact fun h => h | refine And.intro ?_ ?_ | (intro hb; first | (simp at hb; done) | (simp at hb) | skip) | omega | exact rfl | exact Nat.le_refl _ | (show _ + 1 ≤ 4294967296; omega) | (dsimp only; omega) | (show (_ : Int) ≤ (_ : Int); omega) | (show _ < List.length _; simp only [List.length_set, List.length_append, List.length_take]; omega) | (show wantB _ _ = true; simp; done) | (show wantB _ _ = true; simp; omega) | (show (_ : Bool) = _; simp_all; done) | (exfalso; omega) | refine aRegion_auto (by decide +kernel) ?_ | fail))
  apply exEff
  · (repeat' (first | refine And.intro ?_ ?_ | omega))
    refine acall_frame0 rfl (less_int _ _ _ _ ?_)
    exact ⟨rfl, rfl⟩
  (repeat' (first | exact trivial | exact fun h => h | refine And.intro ?_ ?_ | (intro hb; first | (simp at hb; done) | (simp at hb) | skip) | omega | exact rfl | exact Nat.le_refl _ | (show _ + 1 ≤ 4294967296; omega) | (dsimp only; omega) | (show (_ : Int) ≤ (_ : Int); omega) | (show _ < List.length _; simp only [List.length_set, List.length_append, List.length_take]; omega) | (show wantB _ _ = true; simp; done) | (show wantB _ _ = true; simp; omega) | (show (_ : Bool) = _; simp_all; done) | (exfalso; omega) | refine aRegion_auto (by decide +kernel) ?_ | fail))
  · refine ⟨_, _, REnt.refl _ _ _, hK j i (s + 1) (.inr ⟨rfl, rfl⟩) (by omega) (by omega)⟩
  · refine ⟨_, _, REnt.refl _ _ _, hK i j s (.inl ⟨rfl, rfl⟩) (by omega) (by omega)⟩
set_option maxHeartbeats 4000000 in
theorem median_any (G : List (Nat × Value)) (xs : List Int) (n a b c : Nat) (s : Int) (hn : xs.length = n) (hs : n ≤ 1000000000) (ha : a < n) (hb : b < n) (hc : c < n) (h0 : 0 ≤ s) (h1 : s ≤ 50) (K : AV → List AO → Prop) (hK : ∀ (m : Nat) (s' : Int), m = a ∨ m = b ∨ m = c → s ≤ s' → s' ≤ s + 3 → K (.fz int m) [.row int xs, .box [.fz int s']]) :
    ACall Tryd.prog G 93 [.ref 0 0 n, .fz int a, .fz int b, .fz int c, .ptr 1 0] [.row int xs, .box [.fz int s]] K := by
  refine acall_mk (E := envAt G 36 2) (envOk _ _ _) Tryd.func93 rfl rfl rfl rfl rfl ?_
  (repeat' (first | exact trivial | exact fun h => h | refine And.intro ?_ ?_ | (intro hb; first | (simp at hb; done) | (simp at hb) | skip) | omega | exact rfl | exact Nat.le_refl _ | (show _ + 1 ≤ 4294967296; omega) | (dsimp only; omega) | (show (_ : Int) ≤ (_ : Int); omega) | (show _ < List.length _; simp only [List.length_set, List.length_append, List.length_take]; omega) | (show wantB _ _ = true; simp; done) | (show wantB _ _ = true; simp; omega) | (show (_ : Bool) = _; simp_all; done) | (exfalso; omega) | refine aRegion_auto (by decide +kernel) ?_ | fail))
  refine order2_any _ xs n a b s hn hs ha hb (by omega) (by omega) _ fun a1 b1 s1 e1 l1 u1 => ?_
  (repeat' (first | exact trivial | exact fun h => h | refine And.intro ?_ ?_ | (intro hb; first | (simp at hb; done) | (simp at hb) | skip) | omega | exact rfl | exact Nat.le_refl _ | (show _ + 1 ≤ 4294967296; omega) | (dsimp only; omega) | (show (_ : Int) ≤ (_ : Int); omega) | (show _ < List.length _; simp only [List.length_set, List.length_append, List.length_take]; omega) | (show wantB _ _ = true; simp; done) | (show wantB _ _ = true; simp; omega) | (show (_ : Bool) = _; simp_all; done) | (exfalso; omega) | refine aRegion_auto (by decide +kernel) ?_ | fail))
  refine order2_any _ xs n b1 c s1 hn hs (by omega) hc (by omega) (by omega) _ fun b2 c2 s2 e2 l2 u2 => ?_
  (repeat' (first | exact trivial | exact fun h => h | refine And.intro ?_ ?_ | (intro hb; first | (simp at hb; done) | (simp at hb) | skip) | omega | exact rfl | exact Nat.le_refl _ | (show _ + 1 ≤ 4294967296; omega) | (dsimp only; omega) | (show (_ : Int) ≤ (_ : Int); omega) | (show _ < List.length _; simp only [List.length_set, List.length_append, List.length_take]; omega) | (show wantB _ _ = true; simp; done) | (show wantB _ _ = true; simp; omega) | (show (_ : Bool) = _; simp_all; done) | (exfalso; omega) | refine aRegion_auto (by decide +kernel) ?_ | fail))
  refine order2_any _ xs n a1 b2 s2 hn hs (by omega) (by omega) (by omega) (by omega) _ fun a3 b3 s3 e3 l3 u3 => ?_
  (repeat' (first | exact trivial | exact fun h => h | refine And.intro ?_ ?_ | (intro hb; first | (simp at hb; done) | (simp at hb) | skip) | omega | exact rfl | exact Nat.le_refl _ | (show _ + 1 ≤ 4294967296; omega) | (dsimp only; omega) | (show (_ : Int) ≤ (_ : Int); omega) | (show _ < List.length _; simp only [List.length_set, List.length_append, List.length_take]; omega) | (show wantB _ _ = true; simp; done) | (show wantB _ _ = true; simp; omega) | (show (_ : Bool) = _; simp_all; done) | (exfalso; omega) | refine aRegion_auto (by decide +kernel) ?_ | fail))
  refine ⟨_, _, REnt.refl _ _ _, hK b3 s3 (by omega) (by omega) (by omega)⟩
set_option maxHeartbeats 4000000 in
theorem medianAdj_any (G : List (Nat × Value)) (xs : List Int) (n a : Nat) (s : Int) (hn : xs.length = n) (hs : n ≤ 1000000000) (ha : 1 ≤ a) (hb : a + 1 < n) (h0 : 0 ≤ s) (h1 : s ≤ 50) (K : AV → List AO → Prop) (hK : ∀ (m : Nat) (s' : Int), a ≤ m + 1 → m ≤ a + 1 → s ≤ s' → s' ≤ s + 3 → K (.fz int m) [.row int xs, .box [.fz int s']]) :
    ACall Tryd.prog G 92 [.ref 0 0 n, .fz int a, .ptr 1 0] [.row int xs, .box [.fz int s]] K := by
  refine acall_mk (E := envAt G 15 2) (envOk _ _ _) Tryd.func92 rfl rfl rfl rfl rfl ?_
  (repeat' (first | exact trivial | exact fun h => h | refine And.intro ?_ ?_ | (intro hb; first | (simp at hb; done) | (simp at hb) | skip) | omega | exact rfl | exact Nat.le_refl _ | (show _ + 1 ≤ 4294967296; omega) | (dsimp only; omega) | (show (_ : Int) ≤ (_ : Int); omega) | (show _ < List.length _; simp only [List.length_set, List.length_append, List.length_take]; omega) | (show wantB _ _ = true; simp; done) | (show wantB _ _ = true; simp; omega) | (show (_ : Bool) = _; simp_all; done) | (exfalso; omega) | refine aRegion_auto (by decide +kernel) ?_ | fail))
  refine acall_arg (median_any _ xs n (a - 1) a (a + 1) s hn hs (by omega) (by omega) (by omega) h0 h1 _ fun m s1 e1 l1 u1 => ?_) ?_
  rotate_left
  · have e : ∀ x y : Int, x = (a : Int) - 1 → y = (a : Int) + 1 → [AV.ref 0 0 n, AV.fz int x, AV.fz int a, AV.fz int y, AV.ptr 1 0] = [AV.ref 0 0 n, AV.fz int ((a : Int) - 1), AV.fz int a, AV.fz int ((a : Int) + 1), AV.ptr 1 0] := by rintro _ _ rfl rfl; rfl
    exact e ((a - 1 : Nat) : Int) ((a + 1 : Nat) : Int) (by omega) (by omega)
  (repeat' (first | exact trivial | exact fun h => h | refine And.intro ?_ ?_ | (intro hb; first | (simp at hb; done) | (simp at hb) | skip) | omega | exact rfl | exact Nat.le_refl _ | (show _ + 1 ≤ 4294967296; omega) | (dsimp only; omega) | (show (_ : Int) ≤ (_ : Int); omega) | (show _ < List.length _; simp only [List.length_set, List.length_append, List.length_take]; omega) | (show wantB _ _ = true; simp; done) | (show wantB _ _ = true; simp; omega) | (show (_ : Bool) = _; simp_all; done) | (exfalso; omega) | refine aRegion_auto (by decide +kernel) ?_ | fail))
  refine ⟨_, _, REnt.refl _ _ _, hK m s1 (by omega) (by omega) (by omega) (by omega)⟩
set_option maxHeartbeats 8000000 in
theorem choosePivot_any (G : List (Nat × Value)) (xs : List Int) (n a b : Nat) (hn : xs.length = n) (hs : n ≤ 1000000000) (hab : a + 8 ≤ b) (hb : b ≤ n) (K : AV → List AO → Prop) (hK : ∀ (p : Nat) (h : Int), a ≤ p → p < b → K (.tup [.fz int p, .fz int h]) [.row int xs]) :
    ACall Tryd.prog G 81 [.ref 0 0 n, .fz int a, .fz int b] [.row int xs] K := by
  obtain ⟨q, hq⟩ : ∃ q, q = (b - a) / 4 := ⟨_, rfl⟩
  have hqd : Int.tdiv ((b : Int) - (a : Int)) 4 = (q : Int) := by rw [Int.tdiv_eq_ediv_of_nonneg (by omega)]; omega
  refine acall_mk (E := envCut G 57 1 [6]) (envCutOk _ _ _ _) Tryd.func81 rfl rfl rfl rfl rfl ?_
  (repeat' (first | exact trivial | exact fun h => h | refine And.intro ?_ ?_ | (intro hb; first | (simp at hb; done) | (simp at hb) | skip) | omega | exact rfl | exact Nat.le_refl _ | (show _ + 1 ≤ 4294967296; omega) | (dsimp only; omega) | (show (_ : Int) ≤ (_ : Int); omega) | (show _ < List.length _; simp only [List.length_set, List.length_append, List.length_take]; omega) | (show wantB _ _ = true; simp; done) | (show wantB _ _ = true; simp; omega) | (show (_ : Bool) = _; simp_all; done) | (exfalso; omega) | refine aRegion_auto (by decide +kernel) ?_ | fail))
  refine ⟨[(0, .ref 0 0 n), (1, .fz int a), (2, .fz int b), (6, .fz int 0), (7, .fz int 0), (8, .fz int ((b : Int) - a)), (9, .ptr 1 0), (10, .fz int ((a + q : Nat) : Int)), (11, .fz int ((a + 2 * q : Nat) : Int)), (12, .fz int ((a + 3 * q : Nat) : Int))], [.row int xs, .box [.fz int 0]], Ent.sub rfl ?_, ?_⟩
  · (repeat' (first | exact trivial | exact rfl | refine And.intro ?_ ?_))
    · exact congrArg (AV.fz int) (show (a : Int) + Int.tdiv ((b : Int) - (a : Int)) 4 * 1 = ((a + q : Nat) : Int) by rw [hqd]; omega)
    · exact congrArg (AV.fz int) (show (a : Int) + Int.tdiv ((b : Int) - (a : Int)) 4 * 2 = ((a + 2 * q : Nat) : Int) by rw [hqd]; omega)
    · exact congrArg (AV.fz int) (show (a : Int) + Int.tdiv ((b : Int) - (a : Int)) 4 * 3 = ((a + 3 * q : Nat) : Int) by rw [hqd]; omega)
  by_cases h50 : a + 50 ≤ b
  · (repeat' (first | exact trivial | exact fun h => h | refine And.intro ?_ ?_ | (intro hb; first | (simp at hb; done) | (simp at hb) | skip) | omega | exact rfl | exact Nat.le_refl _ | (show _ + 1 ≤ 4294967296; omega) | (dsimp only; omega) | (show (_ : Int) ≤ (_ : Int); omega) | (show _ < List.length _; simp only [List.length_set, List.length_append, List.length_take]; omega) | (show wantB _ _ = true; simp; done) | (show wantB _ _ = true; simp; omega) | (show (_ : Bool) = _; simp_all; done) | (exfalso; omega) | refine aRegion_auto (by decide +kernel) ?_ | fail))
    refine medianAdj_any _ xs n (a + q) 0 hn hs (by omega) (by omega) (by omega) (by omega) _ fun i s1 i1 i2 l1 u1 => ?_
    (repeat' (first | exact trivial | exact fun h => h | refine And.intro ?_ ?_ | (intro hb; first | (simp at hb; done) | (simp at hb) | skip) | omega | exact rfl | exact Nat.le_refl _ | (show _ + 1 ≤ 4294967296; omega) | (dsimp only; omega) | (show (_ : Int) ≤ (_ : Int); omega) | (show _ < List.length _; simp only [List.length_set, List.length_append, List.length_take]; omega) | (show wantB _ _ = true; simp; done) | (show wantB _ _ = true; simp; omega) | (show (_ : Bool) = _; simp_all; done) | (exfalso; omega) | refine aRegion_auto (by decide +kernel) ?_ | fail))
    refine medianAdj_any _ xs n (a + 2 * q) s1 hn hs (by omega) (by omega) (by omega) (by omega) _ fun j s2 j1 j2 l2 u2 => ?_
    (repeat' (first | exact trivial | exact fun h => h | refine And.intro ?_ ?_ | (intro hb; first | (simp at hb; done) | (simp at hb) | skip) | omega | exact rfl | exact Nat.le_refl _ | (show _ + 1 ≤ 4294967296; omega) | (dsimp only; omega) | (show (_ : Int) ≤ (_ : Int); omega) | (show _ < List.length _; simp only [List.length_set, List.length_append, List.length_take]; omega) | (show wantB _ _ = true; simp; done) | (show wantB _ _ = true; simp; omega) | (show (_ : Bool) = _; simp_all; done) | (exfalso; omega) | refine aRegion_auto (by decide +kernel) ?_ | fail))
    refine medianAdj_any _ xs n (a + 3 * q) s2 hn hs (by omega) (by omega) (by omega) (by omega) _ fun k s3 k1 k2 l3 u3 => ?_
    (repeat' (first | exact trivial | exact fun h => h | refine And.intro ?_ ?_ | (intro hb; first | (simp at hb; done) | (simp at hb) | skip) | omega | exact rfl | exact Nat.le_refl _ | (show _ + 1 ≤ 4294967296; omega) | (dsimp only; omega) | (show (_ : Int) ≤ (_ : Int); omega) | (show _ < List.length _; simp only [List.length_set, List.length_append, List.length_take]; omega) | (show wantB _ _ = true; simp; done) | (show wantB _ _ = true; simp; omega) | (show (_ : Bool) = _; simp_all; done) | (exfalso; omega) | refine aRegion_auto (by decide +kernel) ?_ | fail))
    refine median_any _ xs n i j k s3 hn hs (by omega) (by omega) (by omega) (by omega) (by omega) _ fun m s4 e4 l4 u4 => ?_
    (repeat' (first | exact trivial | exact fun h => h | refine And.intro ?_ ?_ | (intro hb; first | (simp at hb; done) | (simp at hb) | skip) | omega | exact rfl | exact Nat.le_refl _ | (show _ + 1 ≤ 4294967296; omega) | (dsimp only; omega) | (show (_ : Int) ≤ (_ : Int); omega) | (show _ < List.length _; simp only [List.length_set, List.length_append, List.length_take]; omega) | (show wantB _ _ = true; simp; done) | (show wantB _ _ = true; simp; omega) | (show (_ : Bool) = _; simp_all; done) | (exfalso; omega) | refine aRegion_auto (by decide +kernel) ?_ | fail))
    · refine ⟨_, _, REnt.ren [0] rfl ?_ ?_, hK m 1 (by omega) (by omega)⟩ <;> (repeat' (first | exact trivial | exact rfl | refine And.intro ?_ ?_))
    · refine ⟨_, _, REnt.ren [0] rfl ?_ ?_, hK m 2 (by omega) (by omega)⟩ <;> (repeat' (first | exact trivial | exact rfl | refine And.intro ?_ ?_))
    · refine ⟨_, _, REnt.ren [0] rfl ?_ ?_, hK m 0 (by omega) (by omega)⟩ <;> (repeat' (first | exact trivial | exact rfl | refine And.intro ?_ ?_))
  · (repeat' (first | exact trivial | exact fun h => h | refine And.intro ?_ ?_ | (intro hb; first | (simp at hb; done) | (simp at hb) | skip) | omega | exact rfl | exact Nat.le_refl _ | (show _ + 1 ≤ 4294967296; omega) | (dsimp only; omega) | (show (_ : Int) ≤ (_ : Int); omega) | (show _ < List.length _; simp only [List.length_set, List.length_append, List.length_take]; omega) | (show wantB _ _ = true; simp; done) | (show wantB _ _ = true; simp; omega) | (show (_ : Bool) = _; simp_all; done) | (exfalso; omega) | refine aRegion_auto (by decide +kernel) ?_ | fail))
    refine median_any _ xs n (a + q) (a + 2 * q) (a + 3 * q) 0 hn hs (by omega) (by omega) (by omega) (by omega) (by omega) _ fun m s4 e4 l4 u4 => ?_
    (repeat' (first | exact trivial | exact fun h => h | refine And.intro ?_ ?_ | (intro hb; first | (simp at hb; done) | (simp at hb) | skip) | omega | exact rfl | exact Nat.le_refl _ | (show _ + 1 ≤ 4294967296; omega) | (dsimp only; omega) | (show (_ : Int) ≤ (_ : Int); omega) | (show _ < List.length _; simp only [List.length_set, List.length_append, List.length_take]; omega) | (show wantB _ _ = true; simp; done) | (show wantB _ _ = true; simp; omega) | (show (_ : Bool) = _; simp_all; done) | (exfalso; omega) | refine aRegion_auto (by decide +kernel) ?_ | fail))
    · refine ⟨_, _, REnt.ren [0] rfl ?_ ?_, hK m 1 (by omega) (by omega)⟩ <;> (repeat' (first | exact trivial | exact rfl | refine And.intro ?_ ?_))
    · refine ⟨_, _, REnt.ren [0] rfl ?_ ?_, hK m 0 (by omega) (by omega)⟩ <;> (repeat' (first | exact trivial | exact rfl | refine And.intro ?_ ?_))
end Go.Proofs.YtepkknjncpbahaaDoor
