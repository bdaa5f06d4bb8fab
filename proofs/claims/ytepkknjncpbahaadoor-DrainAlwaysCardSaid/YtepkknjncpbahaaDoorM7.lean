/-
  What gathers: the document's walk.
-/
import Derived.Test.YtepkknjncpbahaaDoorM6
namespace Go.Proofs.YtepkknjncpbahaaDoor
open Go Go.Ab
set_option maxRecDepth 100000
section
variable {w h : Nat} {to : Nat → Nat} {ord : List Nat}
def hN (n : Nat) (to : Nat → Nat) (ord : List Nat) (rain : Nat → Int) (i j : Nat) : Int := sumN i (fun u => if memN to ord n u j = true then rain u else 0)
def visN (to : Nat → Nat) : Nat → Nat → Nat → Bool
  | 0, i, j => j == i
  | t + 1, i, j => visN to t i j || j == itF to (t + 1) i
theorem visN_iff {i j : Nat} : ∀ t, visN to t i j = true ↔ ∃ s, s ≤ t ∧ itF to s i = j
  | 0 => by
    unfold visN
    constructor
    · intro hh
      have : j = i := by simpa using hh
      exact ⟨0, by omega, this.symm⟩
    · rintro ⟨s, hs, e⟩
      obtain rfl : s = 0 := by omega
      have : i = j := e
      simp [this]
  | t + 1 => by
    unfold visN
    rw [Bool.or_eq_true, visN_iff t]
    constructor
    · rintro (⟨s, hs, e⟩ | hh)
      · exact ⟨s, by omega, e⟩
      · have : j = itF to (t + 1) i := by simpa using hh
        exact ⟨t + 1, by omega, this.symm⟩
    · rintro ⟨s, hs, e⟩
      by_cases hst : s = t + 1
      · subst hst; exact .inr (by rw [e]; simp)
      · exact .inl ⟨s, by omega, e⟩
def pN (n : Nat) (to : Nat → Nat) (ord : List Nat) (rain : Nat → Int) (i t j : Nat) : Int := hN n to ord rain i j + (if visN to t i j = true then rain i else 0)
theorem FlowN.vis_new (F : FlowN w h to ord) {i t : Nat} (hi : i < w * h) (hs : ∀ s, s < t + 1 → to (itF to s i) ≠ itF to s i) : visN to t i (itF to (t + 1) i) = false := by
  rw [← Bool.not_eq_true]
  intro hv
  obtain ⟨s, h1, h2⟩ := (visN_iff t).1 hv
  have := F.it_down hi hs s (by omega)
  rw [h2] at this
  omega
theorem FlowN.p_end (F : FlowN w h to ord) (rain : Nat → Int) {i t : Nat} (hi : i < w * h) (hs : ∀ s, s < t → to (itF to s i) ≠ itF to s i) (he : to (itF to t i) = itF to t i) {j : Nat} : pN (w * h) to ord rain i t j = hN (w * h) to ord rain (i + 1) j := by
  show hN (w * h) to ord rain i j + _ = hN (w * h) to ord rain i j + (if memN to ord (w * h) i j = true then rain i else 0)
  by_cases hm : memN to ord (w * h) i j = true
  · obtain ⟨s, h1, h2⟩ := itF_mem he _ _ hm
    rw [if_pos hm, if_pos ((visN_iff t).2 ⟨s, h1, h2⟩)]
  · rw [if_neg hm, if_neg (fun hv => by
      obtain ⟨s, h1, h2⟩ := (visN_iff t).1 hv
      apply hm
      rw [← h2]
      exact F.mem_it hi s fun u hu => hs u (by omega))]
theorem hN_bd {n i j : Nat} {rain : Nat → Int} (hr : ∀ u, u < n → 0 ≤ rain u ∧ rain u ≤ 1048576) (hi : i ≤ n) : 0 ≤ hN n to ord rain i j ∧ hN n to ord rain i j ≤ (i * 1048576 : Nat) := by
  refine sumN_bd i fun u hu => ?_
  have := hr u (by omega)
  split <;> omega
theorem FlowN.ga_bd (F : FlowN w h to ord) (hwh : w * h ≤ 16384) {rain : Nat → Int} (hr : ∀ u, u < w * h → 0 ≤ rain u ∧ rain u ≤ 1048576) (m j : Nat) (hm : m ≤ w * h) (hj : j < w * h) : 0 ≤ gaN to ord rain m j ∧ gaN to ord rain m j ≤ 2305843009213693952 := by
  rw [F.ga_sum rain m hm j hj]
  have := sumN_bd (f := fun i => if memN to ord m i j = true then rain i else 0) (B := 1048576) (w * h) fun u hu => by
    have := hr u hu
    split <;> omega
  have hb : w * h * 1048576 ≤ 16384 * 1048576 := Nat.mul_le_mul_right _ hwh
  omega
end
set_option maxHeartbeats 4000000 in
theorem gatherOf_any (G : List (Nat × Value)) (fl : List Int × List Int × List Int) {w h : Nat} {to : Nat → Nat} {ord : List Nat} (F : FlowN w h to ord) (hwh : w * h ≤ 16384) (hf : fl.2.1 = lst (w * h) (fun i => ((to i : Nat) : Int))) (rain : Nat → Int) (hr : ∀ u, u < w * h → 0 ≤ rain u ∧ rain u ≤ 1048576) (K : AV → List AO → Prop) (hK : K (.ref 0 0 (w * h)) [.row int (lst (w * h) (gaN to ord rain (w * h)))]) :
    ACall Tryd.prog G 28 [.fz FT fl, .fz (.list int) (lst (w * h) rain)] [] K := by
  obtain ⟨n, hn⟩ : ∃ n, n = w * h := ⟨_, rfl⟩
  have eK : lst (w * h) (gaN to ord rain (w * h)) = lst (w * h) (hN (w * h) to ord rain (w * h)) := lst_congr fun j hj => F.ga_sum rain (w * h) (Nat.le_refl _) j hj
  rw [eK] at hK
  have hbd : ∀ i j, i ≤ w * h → 0 ≤ hN (w * h) to ord rain i j ∧ hN (w * h) to ord rain i j ≤ (i * 1048576 : Nat) := fun i j hi => hN_bd hr hi
  have hlt : ∀ i t, i < w * h → itF to t i < w * h := fun i t hi => F.it_lt hi t
  have hnew : ∀ i t, i < w * h → (∀ s, s < t + 1 → to (itF to s i) ≠ itF to s i) → visN to t i (itF to (t + 1) i) = false := fun i t hi hs => F.vis_new hi hs
  have hend : ∀ i t, i < w * h → (∀ s, s < t → to (itF to s i) ≠ itF to s i) → to (itF to t i) = itF to t i → lst (w * h) (pN (w * h) to ord rain i t) = lst (w * h) (hN (w * h) to ord rain (i + 1)) := fun i t hi hs he => lst_congr fun j _ => F.p_end rain hi hs he
  have hpos : ∀ c, c < w * h → to c ≠ c → ord.idxOf (to c) < ord.idxOf c := F.pos
  have hto := F.lt
  rw [← hn] at hwh hf hr hK hbd hlt hnew hend hpos hto ⊢
  have hlen : fl.2.1.length = n := by rw [hf]; exact lst_len _ _
  have hrl := lst_len n rain
  let bF : AO := .box [.fz (.list int) fl.1, .fz (.list int) fl.2.1, .fz (.list int) fl.2.2]
  refine acall_mk (E := envAt G 55 0) (envOk _ _ _) Tryd.func28 rfl rfl rfl rfl rfl ?_
  (repeat' (first | exact trivial | exact fun h => h | refine And.intro ?_ ?_ | (intro hb; first | (simp at hb; done) | (simp at hb) | skip) | omega | exact rfl | exact Nat.le_refl _ | (show _ + 1 ≤ 4294967296; omega) | (dsimp only; omega) | (show (_ : Int) ≤ (_ : Int); omega) | (show _ < List.length _; simp only [List.length_set, List.length_append, List.length_take]; omega) | (show wantB _ _ = true; simp; done) | (show wantB _ _ = true; simp; omega) | (show (_ : Bool) = _; simp_all; done) | (exfalso; omega) | fail))
  refine ⟨Nat, fun i => ⟨[(1, .fz (.list int) (lst n rain)), (2, .ptr 0 0), (5, .ref 1 0 n), (6, .fz int i)], [bF, .row int (lst n (hN n to ord rain i))]⟩, fun i => i ≤ n, fun i => n - i, 0, Nat.zero_le _, Ent.sub ?_ ?_, ?_⟩
  · (repeat' (first | exact rfl | refine cons_eq ?_ ?_))
    rw [hrl]
    show AO.row int (List.replicate n 0) = _
    rw [lst_zero]
    exact row_lst fun j _ => rfl
  · (repeat' (first | exact trivial | exact rfl | refine And.intro ?_ ?_))
    exact congrArg (AV.ref 1 0) hrl
  intro i hi
  have hH := lst_len n (hN n to ord rain i)
  by_cases hin : i < n
  · have hri := hr i hin
    have b1 := hbd i i hi
    have q1 : List.getD (lst n (hN n to ord rain i)) (0 + Int.toNat (i : Int)) int.dft = hN n to ord rain i i := by rw [Nat.zero_add, Int.toNat_natCast]; exact lst_at _ hin
    have q2 : List.getD (lst n rain) (Int.toNat (i : Int)) int.dft = rain i := by rw [Int.toNat_natCast]; exact lst_at _ hin
    have hib : i * 1048576 ≤ 16384 * 1048576 := Nat.mul_le_mul_right _ (by omega)
    have hgt : ∀ c, c < n → List.getD fl.2.1 (Int.toNat (c : Int)) int.dft = ((to c : Nat) : Int) := fun c hc => by rw [hf]; exact lst_at (fun i => ((to i : Nat) : Int)) hc
    have hgt' : ∀ c, c < n → fl.2.1[c]?.getD int.dft = ((to c : Nat) : Int) := fun c hc => by rw [hf]; exact lst_get (fun i => ((to i : Nat) : Int)) hc
    (repeat' (first | exact trivial | exact fun h => h | refine And.intro ?_ ?_ | (intro hb; first | (simp at hb; done) | (simp at hb) | skip) | omega | exact rfl | exact Nat.le_refl _ | (show _ + 1 ≤ 4294967296; omega) | (dsimp only; omega) | (show (_ : Int) ≤ (_ : Int); omega) | (show _ < List.length _; simp only [List.length_set, List.length_append, List.length_take]; omega) | (show wantB _ _ = true; simp; done) | (show wantB _ _ = true; simp; omega) | (show (_ : Bool) = _; simp_all; done) | (exfalso; omega) | refine aRegion_auto (by decide +kernel) ?_ | fail))
    (apply exEff; focus (repeat' (first | exact ⟨rfl, rfl⟩ | exact trivial | refine And.intro ?_ ?_ | omega | exact Nat.le_refl _ | (show _ + 1 ≤ 4294967296; omega))))
    (repeat' (first | exact trivial | exact fun h => h | refine And.intro ?_ ?_ | (intro hb; first | (simp at hb; done) | (simp at hb) | skip) | omega | exact rfl | exact Nat.le_refl _ | (show _ + 1 ≤ 4294967296; omega) | (dsimp only; omega) | (show (_ : Int) ≤ (_ : Int); omega) | (show _ < List.length _; simp only [List.length_set, List.length_append, List.length_take]; omega) | (show wantB _ _ = true; simp; done) | (show wantB _ _ = true; simp; omega) | (show (_ : Bool) = _; simp_all; done) | (exfalso; omega) | refine aRegion_auto (by decide +kernel) ?_ | fail))
    refine ⟨Nat, fun t => ⟨[(1, .fz (.list int) (lst n rain)), (2, .ptr 0 0), (5, .ref 1 0 n), (6, .fz int i), (7, .fz int (itF to t i))], [bF, .row int (lst n (pN n to ord rain i t))]⟩, fun t => ∀ s, s < t → to (itF to s i) ≠ itF to s i, fun t => ord.idxOf (itF to t i), 0, (fun s hs => absurd hs (Nat.not_lt_zero s)), Ent.sub ?_ ?_, ?_⟩
    · (repeat' (first | exact rfl | refine cons_eq ?_ ?_))
      refine row_set1 (k := i) (f := hN n to ord rain i) (g := pN n to ord rain i 0) (hN n to ord rain i i + rain i) ?_ fun j hj => ?_
      · show List.getD (lst n (hN n to ord rain i)) (0 + Int.toNat (i : Int)) int.dft + List.getD (lst n rain) (Int.toNat (i : Int)) int.dft = _
        rw [q1, q2]
      · show _ = hN n to ord rain i j + (if (j == i) = true then rain i else 0)
        by_cases e : j = i
        · subst e; simp
        · rw [if_neg e, if_neg (by simpa using e)]; omega
    · (repeat' (first | exact trivial | exact rfl | refine And.intro ?_ ?_))
    intro t hs
    have hc := hlt i t hin
    have hP := lst_len n (pN n to ord rain i t)
    have g1 := hgt' _ hc
    have g1' := hgt _ hc
    by_cases he : to (itF to t i) = itF to t i
    · have hE := hend i t hin hs he
      (repeat' (first | exact trivial | exact fun h => h | refine And.intro ?_ ?_ | (intro hb; first | (simp at hb; done) | (simp at hb) | skip) | omega | exact rfl | exact Nat.le_refl _ | (show _ + 1 ≤ 4294967296; omega) | (dsimp only; omega) | (show (_ : Int) ≤ (_ : Int); omega) | (show _ < List.length _; simp only [List.length_set, List.length_append, List.length_take]; omega) | (show wantB _ _ = true; simp; done) | (show wantB _ _ = true; simp; omega) | (show (_ : Bool) = _; simp_all; done) | (exfalso; omega) | refine aRegion_auto (by decide +kernel) ?_ | fail))
      refine ⟨i + 1, by show i + 1 ≤ n; omega, by show n - (i + 1) < n - i; omega, Ent.sub ?_ ?_⟩
      · show [bF, AO.row int (lst n (pN n to ord rain i t))] = [bF, AO.row int (lst n (hN n to ord rain (i + 1)))]
        rw [hE]
      · (repeat' (first | exact trivial | exact rfl | refine And.intro ?_ ?_))
    · have ht := hto _ hc
      have hs' : ∀ s, s < t + 1 → to (itF to s i) ≠ itF to s i := fun s h1 => by
        by_cases e : s = t
        · subst e; exact he
        · exact hs s (by omega)
      have hv := hnew i t hin hs'
      have b3 := hbd i (to (itF to t i)) hi
      have e3 : pN n to ord rain i t (to (itF to t i)) = hN n to ord rain i (to (itF to t i)) := by
        show hN n to ord rain i _ + (if visN to t i (to (itF to t i)) = true then rain i else 0) = _
        rw [if_neg (by rw [show visN to t i (to (itF to t i)) = false from hv]; simp)]; omega
      have q3 : List.getD (lst n (pN n to ord rain i t)) (0 + Int.toNat (List.getD fl.2.1 (Int.toNat ((itF to t i : Nat) : Int)) int.dft)) int.dft = pN n to ord rain i t (to (itF to t i)) := by
        rw [g1', Nat.zero_add, Int.toNat_natCast]; exact lst_at _ ht
      have hd := hpos _ hc he
      (repeat' (first | exact trivial | exact fun h => h | refine And.intro ?_ ?_ | (intro hb; first | (simp at hb; done) | (simp at hb) | skip) | omega | exact rfl | exact Nat.le_refl _ | (show _ + 1 ≤ 4294967296; omega) | (dsimp only; omega) | (show (_ : Int) ≤ (_ : Int); omega) | (show _ < List.length _; simp only [List.length_set, List.length_append, List.length_take]; omega) | (show wantB _ _ = true; simp; done) | (show wantB _ _ = true; simp; omega) | (show (_ : Bool) = _; simp_all; done) | (exfalso; omega) | refine aRegion_auto (by decide +kernel) ?_ | fail))
      (apply exEff; focus (repeat' (first | exact ⟨rfl, rfl⟩ | exact trivial | refine And.intro ?_ ?_ | omega | exact Nat.le_refl _ | (show _ + 1 ≤ 4294967296; omega))))
      (repeat' (first | exact trivial | exact fun h => h | refine And.intro ?_ ?_ | (intro hb; first | (simp at hb; done) | (simp at hb) | skip) | omega | exact rfl | exact Nat.le_refl _ | (show _ + 1 ≤ 4294967296; omega) | (dsimp only; omega) | (show (_ : Int) ≤ (_ : Int); omega) | (show _ < List.length _; simp only [List.length_set, List.length_append, List.length_take]; omega) | (show wantB _ _ = true; simp; done) | (show wantB _ _ = true; simp; omega) | (show (_ : Bool) = _; simp_all; done) | (exfalso; omega) | refine aRegion_auto (by decide +kernel) ?_ | fail))
      refine ⟨t + 1, hs', hd, Ent.sub ?_ ?_⟩
      · show [bF, AO.row int (List.set (lst n (pN n to ord rain i t)) (0 + Int.toNat (List.getD fl.2.1 (Int.toNat ((itF to t i : Nat) : Int)) int.dft)) _)] = [bF, AO.row int (lst n (pN n to ord rain i (t + 1)))]
        (repeat' (first | exact rfl | refine cons_eq ?_ ?_))
        rw [g1']
        refine row_set1 (k := to (itF to t i)) (f := pN n to ord rain i t) (g := pN n to ord rain i (t + 1)) (pN n to ord rain i t (to (itF to t i)) + rain i) ?_ fun j hj => ?_
        · have q3' := q3
          rw [g1'] at q3'
          show List.getD (lst n (pN n to ord rain i t)) (0 + Int.toNat ((to (itF to t i) : Nat) : Int)) int.dft + List.getD (lst n rain) (Int.toNat (i : Int)) int.dft = _
          rw [q3', q2]
        · show _ = hN n to ord rain i j + (if (visN to t i j || j == to (itF to t i)) = true then rain i else 0)
          by_cases e : j = to (itF to t i)
          · subst e; rw [if_pos rfl, e3]; simp
          · rw [if_neg e]
            show hN n to ord rain i j + _ = _
            have : (j == to (itF to t i)) = false := by simpa using e
            rw [this, Bool.or_false]
      · (repeat' (first | exact trivial | exact rfl | refine And.intro ?_ ?_))
        exact congrArg (AV.fz int) g1'
  · have hin : i = n := by omega
    subst hin
    (repeat' (first | exact trivial | exact fun h => h | refine And.intro ?_ ?_ | (intro hb; first | (simp at hb; done) | (simp at hb) | skip) | omega | exact rfl | exact Nat.le_refl _ | (show _ + 1 ≤ 4294967296; omega) | (dsimp only; omega) | (show (_ : Int) ≤ (_ : Int); omega) | (show _ < List.length _; simp only [List.length_set, List.length_append, List.length_take]; omega) | (show wantB _ _ = true; simp; done) | (show wantB _ _ = true; simp; omega) | (show (_ : Bool) = _; simp_all; done) | (exfalso; omega) | fail))
    refine ⟨_, _, REnt.ren [1] rfl ?_ ?_, hK⟩
    · (repeat' (first | exact trivial | exact rfl | refine And.intro ?_ ?_))
    · (repeat' (first | exact trivial | exact rfl | refine And.intro ?_ ?_))
end Go.Proofs.YtepkknjncpbahaaDoor
/-
  DrainFloods: the walk.
-/
namespace Go.Proofs.YtepkknjncpbahaaDoor
open Go Go.Ab
set_option maxRecDepth 100000
theorem small80_any (G : List (Nat × Value)) (a : Ras) (K : AV → List AO → Prop) (hK : K (.fz .bool (decide (a.2.2.length ≤ 80))) []) : ACall Tryd.prog G 10 [.fptr RasT a] [] K := by
  refine acall_mk (E := envAt G 13 0) (envOk _ _ _) Tryd.func10 rfl rfl rfl rfl rfl ?_
  (repeat' (first | exact trivial | exact fun h => h | refine And.intro ?_ ?_ | (intro hb; first | (simp at hb; done) | (simp at hb) | skip) | omega | exact rfl | exact Nat.le_refl _ | (show _ + 1 ≤ 4294967296; omega) | (dsimp only; omega) | (show (_ : Int) ≤ (_ : Int); omega) | (show _ < List.length _; simp only [List.length_set, List.length_append, List.length_take]; omega) | (show wantB _ _ = true; simp; done) | (show wantB _ _ = true; simp; omega) | (show (_ : Bool) = _; simp_all; done) | (exfalso; omega) | refine aRegion_auto (by decide +kernel) ?_ | refine ⟨_, _, REnt.drop ⟨rfl, rfl⟩, ?_⟩ | fail))
  exact kbl hK (by simp; omega)
theorem small80_nil (G : List (Nat × Value)) (K : AV → List AO → Prop) (hK : K (.fz .bool false) []) : ACall Tryd.prog G 10 [.fz .raw (.pointer none)] [] K := by
  refine acall_mk (E := envAt G 13 0) (envOk _ _ _) Tryd.func10 rfl rfl rfl rfl rfl ?_
  (repeat' (first | exact trivial | exact fun h => h | refine And.intro ?_ ?_ | (intro hb; first | (simp at hb; done) | (simp at hb) | skip) | omega | exact rfl | exact Nat.le_refl _ | (show _ + 1 ≤ 4294967296; omega) | (dsimp only; omega) | (show (_ : Int) ≤ (_ : Int); omega) | (show _ < List.length _; simp only [List.length_set, List.length_append, List.length_take]; omega) | (show wantB _ _ = true; simp; done) | (show wantB _ _ = true; simp; omega) | (show (_ : Bool) = _; simp_all; done) | (exfalso; omega) | refine aRegion_auto (by decide +kernel) ?_ | refine ⟨_, _, REnt.drop ⟨rfl, rfl⟩, ?_⟩ | fail))
  exact hK
/-- once reached, where it flows stays -/
theorem to_stays {w h : Nat} {L : Nat → Int} (hw : 0 < w) {i t : Nat} : ∀ k, k ≤ w * h → ∀ j, j ≤ k → (flN w h L j).st i ≠ 0 → (flN w h L j).to i = t → (flN w h L k).st i ≠ 0 ∧ (flN w h L k).to i = t
  | 0, _, j, hj, h1, h2 => by
    obtain rfl : j = 0 := by omega
    exact ⟨h1, h2⟩
  | k + 1, hk, j, hj, h1, h2 => by
    by_cases e : j = k + 1
    · subst e; exact ⟨h1, h2⟩
    · obtain ⟨i1, i2⟩ := to_stays hw k (by omega) j (by omega) h1 h2
      obtain ⟨b, _, _, hb⟩ := @flN_best w h L hw k (by omega)
      rw [hb]
      constructor
      · show (if i = b then 2 else if touchN w b i ∧ (flN w h L k).st i = 0 then 1 else (flN w h L k).st i) ≠ 0
        split
        · omega
        · rw [if_neg (fun h => i1 h.2)]; exact i1
      · show (if touchN w b i ∧ (flN w h L k).st i = 0 then b else (flN w h L k).to i) = t
        rw [if_neg (fun h => i1 h.2)]; exact i2
def a9 : Ras := (3, 3, [9, 9, 9, 9, 5, 1, 9, 9, 9])
theorem a9_ok : rerr a9 = 0 := by decide
theorem a9_4 : (flP a9).2.1.getD 4 0 = 0 ∧ (flP a9).2.1.getD 0 0 = 8 ∧ (flP a9).2.1.length = 9 := by
  have e : flP a9 = fResP 3 3 a9 := by unfold flP; rw [if_pos a9_ok]; rfl
  rw [e]
  have h4 : (flD 3 3 (hts a9)).to 4 = 5 := (to_stays (w := 3) (h := 3) (L := hts a9) (by omega) (i := 4) (t := 5) 9 (by omega) 1 (by omega) (by decide +kernel) (by decide +kernel)).2
  have h0 : (flD 3 3 (hts a9)).to 0 = 0 := (to_stays (w := 3) (h := 3) (L := hts a9) (by omega) (i := 0) (t := 0) 9 (by omega) 0 (by omega) (by decide +kernel) (by decide +kernel)).2
  unfold fResP
  refine ⟨?_, ?_, ?_⟩
  · show (lst 9 _).getD 4 0 = 0
    rw [lst_at _ (by omega), h4]; decide
  · show (lst 9 _).getD 0 0 = 8
    rw [lst_at _ (by omega)]; first | (rw [h0]; decide) | decide
  · show (lst 9 _).length = 9
    rw [lst_len]
theorem drains_any (E : Errs) (K : AV → List AO → Prop) (hK : K (.fz .bool true) []) : ACall Tryd.prog (G8 E) 9 [] [] K := by
  obtain ⟨h4, h0, hl⟩ := a9_4
  refine acall_mk (E := envAt (G8 E) 28 0) (envOk _ _ _) Tryd.func9 rfl rfl rfl rfl rfl ?_
  (repeat' (first | exact trivial | exact fun h => h | refine And.intro ?_ ?_ | (intro hb; first | (simp at hb; done) | (simp at hb) | skip) | omega | exact rfl | exact Nat.le_refl _ | (show _ + 1 ≤ 4294967296; omega) | (dsimp only; omega) | (show (_ : Int) ≤ (_ : Int); omega) | (show _ < List.length _; simp only [List.length_set, List.length_append, List.length_take]; omega) | (show wantB _ _ = true; simp; done) | (show wantB _ _ = true; simp; omega) | (show (_ : Bool) = _; simp_all; done) | (exfalso; omega) | fail))
  refine acall_conv [.dat RasT] _ _ _ rfl ?_ (acall_frame0 rfl (flow_one E a9 (by decide) _ ?_))
  · (repeat' (first | exact trivial | refine And.intro ?_ ?_ | (show _ ≤ _; omega) | (show _ ≤ _; simp; done)))
  rw [a9_ok]
  have h4' : List.getD (flP a9).2.1 (Int.toNat 4) int.dft = 0 := h4
  have h0' : List.getD (flP a9).2.1 (Int.toNat 0) int.dft = 8 := h0
  generalize (flP a9).2.1 = l at *
  (repeat' (first | exact trivial | exact fun h => h | refine And.intro ?_ ?_ | (intro hb; first | (simp at hb; done) | (simp at hb) | skip) | omega | exact rfl | exact Nat.le_refl _ | (show _ + 1 ≤ 4294967296; omega) | (dsimp only; omega) | (show (_ : Int) ≤ (_ : Int); omega) | (show _ < List.length _; simp only [List.length_set, List.length_append, List.length_take]; omega) | (show wantB _ _ = true; simp; done) | (show wantB _ _ = true; simp; omega) | (show (_ : Bool) = _; simp_all; done) | (exfalso; omega) | fail))
  refine ⟨_, _, REnt.drop ⟨rfl, rfl⟩, ?_⟩
  refine kbl hK ?_
  rw [h4', h0', hl]
  rfl
set_option maxHeartbeats 4000000 in
theorem drainFloods_some {E : Errs} (hE : (EL E).Nodup) (a : Ras) (hla : a.2.2.length ≤ 9223372036854775807) (K : AV → List AO → Prop) (hK : K (.fz .bool true) []) :
    ACall Tryd.prog (G8 E) 4 [.fptr RasT a] [] K := by
  refine acall_mk (E := envAt (G8 E) 147 0) (envOk _ _ _) Tryd.func4 rfl rfl rfl rfl rfl ?_
  (repeat' (first | exact trivial | exact fun h => h | refine And.intro ?_ ?_ | (intro hb; first | (simp at hb; done) | (simp at hb) | skip) | omega | exact rfl | exact Nat.le_refl _ | (show _ + 1 ≤ 4294967296; omega) | (dsimp only; omega) | (show (_ : Int) ≤ (_ : Int); omega) | (show _ < List.length _; simp only [List.length_set, List.length_append, List.length_take]; omega) | (show wantB _ _ = true; simp; done) | (show wantB _ _ = true; simp; omega) | (show (_ : Bool) = _; simp_all; done) | (exfalso; omega) | refine aRegion_auto (by decide +kernel) ?_ | refine ⟨_, _, REnt.drop ⟨rfl, rfl⟩, ?_⟩ | fail))
  refine acall_frame0 rfl (drains_any E _ ?_)
  (repeat' (first | exact trivial | exact fun h => h | refine And.intro ?_ ?_ | (intro hb; first | (simp at hb; done) | (simp at hb) | skip) | omega | exact rfl | exact Nat.le_refl _ | (show _ + 1 ≤ 4294967296; omega) | (dsimp only; omega) | (show (_ : Int) ≤ (_ : Int); omega) | (show _ < List.length _; simp only [List.length_set, List.length_append, List.length_take]; omega) | (show wantB _ _ = true; simp; done) | (show wantB _ _ = true; simp; omega) | (show (_ : Bool) = _; simp_all; done) | (exfalso; omega) | refine aRegion_auto (by decide +kernel) ?_ | refine ⟨_, _, REnt.drop ⟨rfl, rfl⟩, ?_⟩ | fail))
  refine acall_frame0 rfl (small80_any _ a _ ?_)
  (repeat' (first | exact trivial | exact fun h => h | refine And.intro ?_ ?_ | (intro hb; first | (simp at hb; done) | (simp at hb) | skip) | omega | exact rfl | exact Nat.le_refl _ | (show _ + 1 ≤ 4294967296; omega) | (dsimp only; omega) | (show (_ : Int) ≤ (_ : Int); omega) | (show _ < List.length _; simp only [List.length_set, List.length_append, List.length_take]; omega) | (show wantB _ _ = true; simp; done) | (show wantB _ _ = true; simp; omega) | (show (_ : Bool) = _; simp_all; done) | (exfalso; omega) | refine aRegion_auto (by decide +kernel) ?_ | refine ⟨_, _, REnt.drop ⟨rfl, rfl⟩, ?_⟩ | fail))
  · exact hK
  have hl : a.2.2.length ≤ 80 := by omega
  refine acall_conv [.dat RasT] _ _ _ rfl trivial (acall_frame0 rfl (fill_one E a (by omega) _ ?_))
  (repeat' (first | exact trivial | exact fun h => h | refine And.intro ?_ ?_ | (intro hb; first | (simp at hb; done) | (simp at hb) | skip) | omega | exact rfl | exact Nat.le_refl _ | (show _ + 1 ≤ 4294967296; omega) | (dsimp only; omega) | (show (_ : Int) ≤ (_ : Int); omega) | (show _ < List.length _; simp only [List.length_set, List.length_append, List.length_take]; omega) | (show wantB _ _ = true; simp; done) | (show wantB _ _ = true; simp; omega) | (show (_ : Bool) = _; simp_all; done) | (exfalso; omega) | refine aRegion_auto (by decide +kernel) ?_ | refine ⟨_, _, REnt.drop ⟨rfl, rfl⟩, ?_⟩ | fail))
  refine acall_frame0 rfl (flow_one E a (by omega) _ ?_)
  (repeat' (first | exact trivial | exact fun h => h | refine And.intro ?_ ?_ | (intro hb; first | (simp at hb; done) | (simp at hb) | skip) | omega | exact rfl | exact Nat.le_refl _ | (show _ + 1 ≤ 4294967296; omega) | (dsimp only; omega) | (show (_ : Int) ≤ (_ : Int); omega) | (show _ < List.length _; simp only [List.length_set, List.length_append, List.length_take]; omega) | (show wantB _ _ = true; simp; done) | (show wantB _ _ = true; simp; omega) | (show (_ : Bool) = _; simp_all; done) | (exfalso; omega) | refine aRegion_auto (by decide +kernel) ?_ | refine ⟨_, _, REnt.drop ⟨rfl, rfl⟩, ?_⟩ | fail))
  refine acall_frame0 rfl (order_one E a (by omega) _ ?_)
  (repeat' (first | exact trivial | exact fun h => h | refine And.intro ?_ ?_ | (intro hb; first | (simp at hb; done) | (simp at hb) | skip) | omega | exact rfl | exact Nat.le_refl _ | (show _ + 1 ≤ 4294967296; omega) | (dsimp only; omega) | (show (_ : Int) ≤ (_ : Int); omega) | (show _ < List.length _; simp only [List.length_set, List.length_append, List.length_take]; omega) | (show wantB _ _ = true; simp; done) | (show wantB _ _ = true; simp; omega) | (show (_ : Bool) = _; simp_all; done) | (exfalso; omega) | refine aRegion_auto (by decide +kernel) ?_ | refine ⟨_, _, REnt.drop ⟨rfl, rfl⟩, ?_⟩ | fail))
  refine acall_frame0 rfl (rasterError_any _ a (by omega) _ ?_)
  (repeat' (first | exact trivial | exact fun h => h | refine And.intro ?_ ?_ | (intro hb; first | (simp at hb; done) | (simp at hb) | skip) | omega | exact rfl | exact Nat.le_refl _ | (show _ + 1 ≤ 4294967296; omega) | (dsimp only; omega) | (show (_ : Int) ≤ (_ : Int); omega) | (show _ < List.length _; simp only [List.length_set, List.length_append, List.length_take]; omega) | (show wantB _ _ = true; simp; done) | (show wantB _ _ = true; simp; omega) | (show (_ : Bool) = _; simp_all; done) | (exfalso; omega) | refine aRegion_auto (by decide +kernel) ?_ | refine ⟨_, _, REnt.drop ⟨rfl, rfl⟩, ?_⟩ | fail))
  · have h4 := rerr_in a
    have hne : rerr a ≠ 0 := by omega
    have e1 : fillQ a = (0, 0, []) := by unfold fillQ; rw [if_neg hne]
    have e2 : flP a = ([], [], []) := by unfold flP; rw [if_neg hne]
    refine acall_frame0 rfl (coded_mercatorlaw4 hE (by omega) (rerr a) _ ?_)
    rw [decide_eq_true rfl, e1, e2]
    (repeat' (first | exact trivial | exact fun h => h | refine And.intro ?_ ?_ | (intro hb; first | (simp at hb; done) | (simp at hb) | skip) | omega | exact rfl | exact Nat.le_refl _ | (show _ + 1 ≤ 4294967296; omega) | (dsimp only; omega) | (show (_ : Int) ≤ (_ : Int); omega) | (show _ < List.length _; simp only [List.length_set, List.length_append, List.length_take]; omega) | (show wantB _ _ = true; simp; done) | (show wantB _ _ = true; simp; omega) | (show (_ : Bool) = _; simp_all; done) | (exfalso; omega) | refine aRegion_auto (by decide +kernel) ?_ | refine ⟨_, _, REnt.drop ⟨rfl, rfl⟩, ?_⟩ | fail))
    refine acall_frame0 rfl (coded_mercatorlaw4 hE (by omega) (rerr a) _ ?_)
    rw [decide_eq_true rfl]
    (repeat' (first | exact trivial | exact fun h => h | refine And.intro ?_ ?_ | (intro hb; first | (simp at hb; done) | (simp at hb) | skip) | omega | exact rfl | exact Nat.le_refl _ | (show _ + 1 ≤ 4294967296; omega) | (dsimp only; omega) | (show (_ : Int) ≤ (_ : Int); omega) | (show _ < List.length _; simp only [List.length_set, List.length_append, List.length_take]; omega) | (show wantB _ _ = true; simp; done) | (show wantB _ _ = true; simp; omega) | (show (_ : Bool) = _; simp_all; done) | (exfalso; omega) | refine aRegion_auto (by decide +kernel) ?_ | refine ⟨_, _, REnt.drop ⟨rfl, rfl⟩, ?_⟩ | fail))
    refine acall_frame0 rfl (coded_mercatorlaw4 hE (by omega) (rerr a) _ ?_)
    rw [decide_eq_true rfl]
    (repeat' (first | exact trivial | exact fun h => h | refine And.intro ?_ ?_ | (intro hb; first | (simp at hb; done) | (simp at hb) | skip) | omega | exact rfl | exact Nat.le_refl _ | (show _ + 1 ≤ 4294967296; omega) | (dsimp only; omega) | (show (_ : Int) ≤ (_ : Int); omega) | (show _ < List.length _; simp only [List.length_set, List.length_append, List.length_take]; omega) | (show wantB _ _ = true; simp; done) | (show wantB _ _ = true; simp; omega) | (show (_ : Bool) = _; simp_all; done) | (exfalso; omega) | refine aRegion_auto (by decide +kernel) ?_ | refine ⟨_, _, REnt.drop ⟨rfl, rfl⟩, ?_⟩ | fail))
    exact hK
  · have hv : rerr a = 0 := by omega
    have R := RasN.mk' hv
    rw [hv]
    (repeat' (first | exact trivial | exact fun h => h | refine And.intro ?_ ?_ | (intro hb; first | (simp at hb; done) | (simp at hb) | skip) | omega | exact rfl | exact Nat.le_refl _ | (show _ + 1 ≤ 4294967296; omega) | (dsimp only; omega) | (show (_ : Int) ≤ (_ : Int); omega) | (show _ < List.length _; simp only [List.length_set, List.length_append, List.length_take]; omega) | (show wantB _ _ = true; simp; done) | (show wantB _ _ = true; simp; omega) | (show (_ : Bool) = _; simp_all; done) | (exfalso; omega) | refine aRegion_auto (by decide +kernel) ?_ | refine ⟨_, _, REnt.drop ⟨rfl, rfl⟩, ?_⟩ | fail))
    refine acall_frame0 rfl (floodOf_any _ a R _ ?_)
    have e2 : flP a = fResP a.1.toNat a.2.1.toNat a := by unfold flP; rw [if_pos hv]
    have e1 : fillQ a = (a.1, a.2.1, (fRes a.1.toNat a.2.1.toNat a).1) := by unfold fillQ; rw [if_pos hv, e2]; rfl
    have e3 : (fResP a.1.toNat a.2.1.toNat a).2.2 = (fRes a.1.toNat a.2.1.toNat a).2.2 := rfl
    obtain ⟨n, hn⟩ : ∃ n, n = a.1.toNat * a.2.1.toNat := ⟨_, rfl⟩
    have hln := R.len
    rw [← hn] at hln
    have l1 : (fRes a.1.toNat a.2.1.toNat a).1.length = n := by rw [hn]; exact lst_len _ _
    have l2 : (fRes a.1.toNat a.2.1.toNat a).2.2.length = n := by
      rw [hn]; show (natL _).length = _
      rw [natL_len]; exact (flN_ok _ _ _ R.w0 _ (Nat.le_refl _)).2
    have l3 : (fResP a.1.toNat a.2.1.toNat a).2.1.length = n := by rw [hn]; exact lst_len _ _
    have l4 : (fRes a.1.toNat a.2.1.toNat a).2.1.length = n := by rw [hn]; exact lst_len _ _
    have g1 : ∀ i, i < n → List.getD (fResP a.1.toNat a.2.1.toNat a).2.1 i 0 = wayN a.1.toNat i ((flD a.1.toNat a.2.1.toNat (hts a)).to i) := fun i hi => lst_at _ (by omega)
    have g2 : ∀ i, i < n → List.getD (fRes a.1.toNat a.2.1.toNat a).2.1 i 0 = (((flD a.1.toNat a.2.1.toNat (hts a)).to i : Nat) : Int) := fun i hi => lst_at (fun i => (((flD a.1.toNat a.2.1.toNat (hts a)).to i : Nat) : Int)) (by omega)
    have g3 : ∀ i, i < n → (flD a.1.toNat a.2.1.toNat (hts a)).to i < n := fun i hi => by
      obtain ⟨I, _⟩ := flN_ok a.1.toNat a.2.1.toNat (hts a) R.w0 _ (Nat.le_refl _)
      have h2 := flD_all a.1.toNat a.2.1.toNat (hts a) R.w0 i (by omega)
      rcases I.src i (by omega) (by unfold flD at h2; omega) with ⟨_, h, _⟩ | ⟨_, _, h, _⟩
      · unfold flD; omega
      · unfold flD; omega
    rw [e1, e2, e3]
    generalize hFR : fRes a.1.toNat a.2.1.toNat a = FR at *
    generalize hFP : (fResP a.1.toNat a.2.1.toNat a).2.1 = FP at *
    (repeat' (first | exact trivial | exact fun h => h | refine And.intro ?_ ?_ | (intro hb; first | (simp at hb; done) | (simp at hb) | skip) | omega | exact rfl | exact Nat.le_refl _ | (show _ + 1 ≤ 4294967296; omega) | (dsimp only; omega) | (show (_ : Int) ≤ (_ : Int); omega) | (show _ < List.length _; simp only [List.length_set, List.length_append, List.length_take]; omega) | (show wantB _ _ = true; simp; done) | (show wantB _ _ = true; simp; omega) | (show (_ : Bool) = _; simp_all; done) | (exfalso; omega) | refine aRegion_auto (by decide +kernel) ?_ | refine ⟨_, _, REnt.drop ⟨rfl, rfl⟩, ?_⟩ | fail))
    refine acall_frame0 rfl (sameInts_mercatorlaw4 _ FR.1 FR.1 (by omega) _ ?_)
    rw [decide_eq_true rfl]
    (repeat' (first | exact trivial | exact fun h => h | refine And.intro ?_ ?_ | (intro hb; first | (simp at hb; done) | (simp at hb) | skip) | omega | exact rfl | exact Nat.le_refl _ | (show _ + 1 ≤ 4294967296; omega) | (dsimp only; omega) | (show (_ : Int) ≤ (_ : Int); omega) | (show _ < List.length _; simp only [List.length_set, List.length_append, List.length_take]; omega) | (show wantB _ _ = true; simp; done) | (show wantB _ _ = true; simp; omega) | (show (_ : Bool) = _; simp_all; done) | (exfalso; omega) | refine aRegion_auto (by decide +kernel) ?_ | refine ⟨_, _, REnt.drop ⟨rfl, rfl⟩, ?_⟩ | fail))
    refine acall_frame0 rfl (sameInts_mercatorlaw4 _ FR.2.2 FR.2.2 (by omega) _ ?_)
    rw [decide_eq_true rfl]
    (repeat' (first | exact trivial | exact fun h => h | refine And.intro ?_ ?_ | (intro hb; first | (simp at hb; done) | (simp at hb) | skip) | omega | exact rfl | exact Nat.le_refl _ | (show _ + 1 ≤ 4294967296; omega) | (dsimp only; omega) | (show (_ : Int) ≤ (_ : Int); omega) | (show _ < List.length _; simp only [List.length_set, List.length_append, List.length_take]; omega) | (show wantB _ _ = true; simp; done) | (show wantB _ _ = true; simp; omega) | (show (_ : Bool) = _; simp_all; done) | (exfalso; omega) | refine aRegion_auto (by decide +kernel) ?_ | refine ⟨_, _, REnt.drop ⟨rfl, rfl⟩, ?_⟩ | fail))
    refine ⟨Nat, fun k => ⟨[(0, .fptr RasT a), (7, .fz (.list int) FP), (12, .ptr 1 0), (15, .fz int k)], [.box [.fz int a.1, .fz int a.2.1, .fz (.list int) FR.1], .box [.fz (.list int) FR.1, .fz (.list int) FR.2.1, .fz (.list int) FR.2.2]]⟩, fun k => k ≤ n, fun k => n - k, 0, Nat.zero_le _, Ent.sub rfl ?_, ?_⟩
    · (repeat' (first | exact trivial | exact rfl | refine And.intro ?_ ?_))
    intro k hk
    by_cases hkn : k < n
    · have q1 : List.getD FR.2.1 (Int.toNat (k : Int)) int.dft = (((flD a.1.toNat a.2.1.toNat (hts a)).to k : Nat) : Int) := g2 k hkn
      have q2 : List.getD FP (Int.toNat (k : Int)) int.dft = wayN a.1.toNat k ((flD a.1.toNat a.2.1.toNat (hts a)).to k) := g1 k hkn
      (repeat' (first | exact trivial | exact fun h => h | refine And.intro ?_ ?_ | (intro hb; first | (simp at hb; done) | (simp at hb) | skip) | omega | exact rfl | exact Nat.le_refl _ | (show _ + 1 ≤ 4294967296; omega) | (dsimp only; omega) | (show (_ : Int) ≤ (_ : Int); omega) | (show _ < List.length _; simp only [List.length_set, List.length_append, List.length_take]; omega) | (show wantB _ _ = true; simp; done) | (show wantB _ _ = true; simp; omega) | (show (_ : Bool) = _; simp_all; done) | (exfalso; omega) | refine aRegion_auto (by decide +kernel) ?_ | refine ⟨_, _, REnt.drop ⟨rfl, rfl⟩, ?_⟩ | fail))
      apply exEff
      · refine acall_frame0 rfl (acall_arg (wayOf_any _ a R k ((flD a.1.toNat a.2.1.toNat (hts a)).to k) (by omega) (by have := g3 k hkn; omega) _ ?_) (by rw [← q1]; rfl))
        exact ⟨rfl, rfl⟩
      (repeat' (first | exact trivial | exact fun h => h | refine And.intro ?_ ?_ | (intro hb; first | (simp at hb; done) | (simp at hb) | skip) | omega | exact rfl | exact Nat.le_refl _ | (show _ + 1 ≤ 4294967296; omega) | (dsimp only; omega) | (show (_ : Int) ≤ (_ : Int); omega) | (show _ < List.length _; simp only [List.length_set, List.length_append, List.length_take]; omega) | (show wantB _ _ = true; simp; done) | (show wantB _ _ = true; simp; omega) | (show (_ : Bool) = _; simp_all; done) | (exfalso; omega) | refine aRegion_auto (by decide +kernel) ?_ | refine ⟨_, _, REnt.drop ⟨rfl, rfl⟩, ?_⟩ | fail))
      · exfalso
        apply hb
        have := q2
        simpa using this
      · refine ⟨k + 1, by show k + 1 ≤ n; omega, by show n - (k + 1) < n - k; omega, Ent.sub rfl ?_⟩
        (repeat' (first | exact trivial | exact rfl | refine And.intro ?_ ?_))
    · have hkn : k = n := by omega
      subst hkn
      (repeat' (first | exact trivial | exact fun h => h | refine And.intro ?_ ?_ | (intro hb; first | (simp at hb; done) | (simp at hb) | skip) | omega | exact rfl | exact Nat.le_refl _ | (show _ + 1 ≤ 4294967296; omega) | (dsimp only; omega) | (show (_ : Int) ≤ (_ : Int); omega) | (show _ < List.length _; simp only [List.length_set, List.length_append, List.length_take]; omega) | (show wantB _ _ = true; simp; done) | (show wantB _ _ = true; simp; omega) | (show (_ : Bool) = _; simp_all; done) | (exfalso; omega) | refine aRegion_auto (by decide +kernel) ?_ | refine ⟨_, _, REnt.drop ⟨rfl, rfl⟩, ?_⟩ | fail))
      exact hK
theorem drainFloods_nil {E : Errs} (K : AV → List AO → Prop) (hK : K (.fz .bool true) []) :
    ACall Tryd.prog (G8 E) 4 [.fz .raw (.pointer none)] [] K := by
  refine acall_mk (E := envAt (G8 E) 147 0) (envOk _ _ _) Tryd.func4 rfl rfl rfl rfl rfl ?_
  (repeat' (first | exact trivial | exact fun h => h | refine And.intro ?_ ?_ | (intro hb; first | (simp at hb; done) | (simp at hb) | skip) | omega | exact rfl | exact Nat.le_refl _ | (show _ + 1 ≤ 4294967296; omega) | (dsimp only; omega) | (show (_ : Int) ≤ (_ : Int); omega) | (show _ < List.length _; simp only [List.length_set, List.length_append, List.length_take]; omega) | (show wantB _ _ = true; simp; done) | (show wantB _ _ = true; simp; omega) | (show (_ : Bool) = _; simp_all; done) | (exfalso; omega) | refine aRegion_auto (by decide +kernel) ?_ | refine ⟨_, _, REnt.drop ⟨rfl, rfl⟩, ?_⟩ | fail))
  refine acall_frame0 rfl (drains_any E _ ?_)
  (repeat' (first | exact trivial | exact fun h => h | refine And.intro ?_ ?_ | (intro hb; first | (simp at hb; done) | (simp at hb) | skip) | omega | exact rfl | exact Nat.le_refl _ | (show _ + 1 ≤ 4294967296; omega) | (dsimp only; omega) | (show (_ : Int) ≤ (_ : Int); omega) | (show _ < List.length _; simp only [List.length_set, List.length_append, List.length_take]; omega) | (show wantB _ _ = true; simp; done) | (show wantB _ _ = true; simp; omega) | (show (_ : Bool) = _; simp_all; done) | (exfalso; omega) | refine aRegion_auto (by decide +kernel) ?_ | refine ⟨_, _, REnt.drop ⟨rfl, rfl⟩, ?_⟩ | fail))
  refine acall_frame0 rfl (small80_nil _ _ ?_)
  (repeat' (first | exact trivial | exact fun h => h | refine And.intro ?_ ?_ | (intro hb; first | (simp at hb; done) | (simp at hb) | skip) | omega | exact rfl | exact Nat.le_refl _ | (show _ + 1 ≤ 4294967296; omega) | (dsimp only; omega) | (show (_ : Int) ≤ (_ : Int); omega) | (show _ < List.length _; simp only [List.length_set, List.length_append, List.length_take]; omega) | (show wantB _ _ = true; simp; done) | (show wantB _ _ = true; simp; omega) | (show (_ : Bool) = _; simp_all; done) | (exfalso; omega) | refine aRegion_auto (by decide +kernel) ?_ | refine ⟨_, _, REnt.drop ⟨rfl, rfl⟩, ?_⟩ | fail))
  exact hK
end Go.Proofs.YtepkknjncpbahaaDoor
/-
  Gather, Way: the walks.
-/
namespace Go.Proofs.YtepkknjncpbahaaDoor
open Go Go.Ab
set_option maxRecDepth 100000
def badB (x : Int) : Bool := decide (x < 0) || decide (1048576 < x)
theorem gather1_any (G : List (Nat × Value)) (x : Int) (K : AV → List AO → Prop) (hK : K (.fz .bool (badB x)) []) : ACall Tryd.prog G 39 [.fz int x] [] K := by
  refine acall_mk (E := envAt G 9 0) (envOk _ _ _) Tryd.func39 rfl rfl rfl rfl rfl ?_
  (repeat' (first | exact trivial | exact fun h => h | refine And.intro ?_ ?_ | (intro hb; first | (simp at hb; done) | (simp at hb) | skip) | omega | exact rfl | exact Nat.le_refl _ | (show _ + 1 ≤ 4294967296; omega) | (dsimp only; omega) | (show (_ : Int) ≤ (_ : Int); omega) | (show _ < List.length _; simp only [List.length_set, List.length_append, List.length_take]; omega) | (show wantB _ _ = true; simp; done) | (show wantB _ _ = true; simp; omega) | (show (_ : Bool) = _; simp_all; done) | (exfalso; omega) | refine aRegion_auto (by decide +kernel) ?_ | fail))
  refine ⟨_, _, REnt.drop ⟨rfl, rfl⟩, kbl hK ?_⟩
  unfold badB
  rfl
/-- what the program says of rain -/
def gaE (a : Ras) (rain : List Int) : Nat := if rerr a = 0 then (if rain.length ≠ a.2.2.length ∨ rain.any badB = true then 3 else 0) else rerr a
theorem lst_of (l : List Int) : lst l.length (fun i => l.getD i 0) = l := by
  apply List.ext_getElem
  · exact lst_len _ _
  · intro i h1 h2
    have := lst_get (n := l.length) (fun i => l.getD i 0) h2
    simp only [List.getElem?_eq_getElem h1, Option.getD_some] at this
    rw [this]; simp [h2]
theorem badB_no {x : Int} (h : badB x = false) : 0 ≤ x ∧ x ≤ 1048576 := by
  unfold badB at h
  simp at h
  omega
def gaQ (a : Ras) (rain : List Int) : List Int := if gaE a rain = 0 then lst (a.1.toNat * a.2.1.toNat) (gaN (flD a.1.toNat a.2.1.toNat (hts a)).to (flD a.1.toNat a.2.1.toNat (hts a)).ord (fun i => rain.getD i 0) (a.1.toNat * a.2.1.toNat)) else []
theorem gather_one (E : Errs) (a : Ras) (rain : List Int) (hl : a.2.2.length ≤ 1000000000000) (hrl : rain.length ≤ 1000000000000) (K : AV → List AO → Prop) (hK : K (.tup [.fz (.list int) (gaQ a rain), .fz .raw (er E (gaE a rain))]) []) :
    ACall Tryd.prog (G8 E) 13 [.fz RasT a, .fz (.list int) rain] [] K := by
  by_cases hv : rerr a = 0
  · have R := RasN.mk' hv
    have F := flowN a.1.toNat a.2.1.toNat (hts a) R.w0
    have eF : flP a = fResP a.1.toNat a.2.1.toNat a := by unfold flP; rw [if_pos hv]
    have hln := R.len
    refine acall_mk (E := envAt (G8 E) 31 0) (envOk _ _ _) Tryd.func13 rfl rfl rfl rfl rfl ?_
    (repeat' (first | exact trivial | exact fun h => h | refine And.intro ?_ ?_ | (intro hb; first | (simp at hb; done) | (simp at hb) | skip) | omega | exact rfl | exact Nat.le_refl _ | (show _ + 1 ≤ 4294967296; omega) | (dsimp only; omega) | (show (_ : Int) ≤ (_ : Int); omega) | (show _ < List.length _; simp only [List.length_set, List.length_append, List.length_take]; omega) | (show wantB _ _ = true; simp; done) | (show wantB _ _ = true; simp; omega) | (show (_ : Bool) = _; simp_all; done) | (exfalso; omega) | fail))
    refine acall_conv [.dat RasT] _ _ _ rfl trivial (acall_frame0 rfl (flood_one E a hl _ ?_))
    rw [hv, eF]
    by_cases hlen : rain.length = a.2.2.length
    · (repeat' (first | exact trivial | exact fun h => h | refine And.intro ?_ ?_ | (intro hb; first | (simp at hb; done) | (simp at hb) | skip) | omega | exact rfl | exact Nat.le_refl _ | (show _ + 1 ≤ 4294967296; omega) | (dsimp only; omega) | (show (_ : Int) ≤ (_ : Int); omega) | (show _ < List.length _; simp only [List.length_set, List.length_append, List.length_take]; omega) | (show wantB _ _ = true; simp; done) | (show wantB _ _ = true; simp; omega) | (show (_ : Bool) = _; simp_all; done) | (exfalso; omega) | fail))
      refine acall_frame0 rfl (containsFunc_any _ rain _ badB (gather1_any _) hrl _ ?_)
      cases hany : rain.any badB with
      | true =>
        have e1 : gaE a rain = 3 := by unfold gaE; rw [if_pos hv, if_pos (.inr hany)]
        have e2 : gaQ a rain = [] := by unfold gaQ; rw [e1, if_neg (by omega)]
        rw [e1, e2] at hK
        (repeat' (first | exact trivial | exact fun h => h | refine And.intro ?_ ?_ | (intro hb; first | (simp at hb; done) | (simp at hb) | skip) | omega | exact rfl | exact Nat.le_refl _ | (show _ + 1 ≤ 4294967296; omega) | (dsimp only; omega) | (show (_ : Int) ≤ (_ : Int); omega) | (show _ < List.length _; simp only [List.length_set, List.length_append, List.length_take]; omega) | (show wantB _ _ = true; simp; done) | (show wantB _ _ = true; simp; omega) | (show (_ : Bool) = _; simp_all; done) | (exfalso; omega) | refine aRegion_auto (by decide +kernel) ?_ | fail))
        refine ⟨_, _, (REnt.conv [.dat (.list int), .keep] _ rfl trivial).trans (REnt.drop ⟨rfl, rfl⟩), ?_⟩
        exact hK
      | false =>
        have e1 : gaE a rain = 0 := by unfold gaE; rw [if_pos hv, if_neg (by rw [hany]; simp [hlen])]
        have e2 : gaQ a rain = lst (a.1.toNat * a.2.1.toNat) (gaN (flD a.1.toNat a.2.1.toNat (hts a)).to (flD a.1.toNat a.2.1.toNat (hts a)).ord (fun i => rain.getD i 0) (a.1.toNat * a.2.1.toNat)) := by unfold gaQ; rw [if_pos e1]
        rw [e1, e2] at hK
        have hr : ∀ u, u < a.1.toNat * a.2.1.toNat → 0 ≤ rain.getD u 0 ∧ rain.getD u 0 ≤ 1048576 := fun u hu => by
          refine badB_no ?_
          have hu' : u < rain.length := by omega
          have := List.any_eq_false.1 hany (rain[u]) (List.getElem_mem hu')
          rw [List.getD_eq_getElem?_getD, List.getElem?_eq_getElem hu']
          simpa using this
        have eR : rain = lst (a.1.toNat * a.2.1.toNat) (fun i => rain.getD i 0) := by rw [← hln, ← hlen]; exact (lst_of rain).symm
        (repeat' (first | exact trivial | exact fun h => h | refine And.intro ?_ ?_ | (intro hb; first | (simp at hb; done) | (simp at hb) | skip) | omega | exact rfl | exact Nat.le_refl _ | (show _ + 1 ≤ 4294967296; omega) | (dsimp only; omega) | (show (_ : Int) ≤ (_ : Int); omega) | (show _ < List.length _; simp only [List.length_set, List.length_append, List.length_take]; omega) | (show wantB _ _ = true; simp; done) | (show wantB _ _ = true; simp; omega) | (show (_ : Bool) = _; simp_all; done) | (exfalso; omega) | fail))
        refine acall_conv [.dat RasT, .dat FT, .keep] _ _ _ rfl ?_ (acall_frame0 rfl (acall_arg (gather_any _ a R F (lst (a.1.toNat * a.2.1.toNat) (flD a.1.toNat a.2.1.toNat (hts a)).fill) (fun i => rain.getD i 0) (fun m j hm hj => F.ga_bd R.wh hr m j hm hj) _ ?_) (by rw [← eR]; rfl)))
        · (repeat' (first | exact trivial | refine And.intro ?_ ?_ | (show _ ≤ _; omega) | (show _ ≤ _; simp; done)))
        (repeat' (first | exact trivial | exact fun h => h | refine And.intro ?_ ?_ | (intro hb; first | (simp at hb; done) | (simp at hb) | skip) | omega | exact rfl | exact Nat.le_refl _ | (show _ + 1 ≤ 4294967296; omega) | (dsimp only; omega) | (show (_ : Int) ≤ (_ : Int); omega) | (show _ < List.length _; simp only [List.length_set, List.length_append, List.length_take]; omega) | (show wantB _ _ = true; simp; done) | (show wantB _ _ = true; simp; omega) | (show (_ : Bool) = _; simp_all; done) | (exfalso; omega) | fail))
        refine ⟨_, _, (REnt.conv [.dat (.list int), .keep] _ rfl ?_).trans (REnt.drop ⟨rfl, rfl⟩), ?_⟩
        · show 0 + _ ≤ _
          rw [Nat.zero_add, lst_len]; exact Nat.le_refl _
        · refine (congrArg (fun l => K (.tup [.fz (.list int) l, .fz .raw .nilIface]) []) ?_).mp hK
          rw [List.drop_zero, List.take_of_length_le (by rw [lst_len]; exact Nat.le_refl _)]
    · have e1 : gaE a rain = 3 := by unfold gaE; rw [if_pos hv, if_pos (.inl hlen)]
      have e2 : gaQ a rain = [] := by unfold gaQ; rw [e1, if_neg (by omega)]
      rw [e1, e2] at hK
      (repeat' (first | exact trivial | exact fun h => h | refine And.intro ?_ ?_ | (intro hb; first | (simp at hb; done) | (simp at hb) | skip) | omega | exact rfl | exact Nat.le_refl _ | (show _ + 1 ≤ 4294967296; omega) | (dsimp only; omega) | (show (_ : Int) ≤ (_ : Int); omega) | (show _ < List.length _; simp only [List.length_set, List.length_append, List.length_take]; omega) | (show wantB _ _ = true; simp; done) | (show wantB _ _ = true; simp; omega) | (show (_ : Bool) = _; simp_all; done) | (exfalso; omega) | refine aRegion_auto (by decide +kernel) ?_ | fail))
      refine ⟨_, _, (REnt.conv [.dat (.list int), .keep] _ rfl trivial).trans (REnt.drop ⟨rfl, rfl⟩), ?_⟩
      exact hK
  · have h4 := rerr_in a
    have e1 : gaE a rain = rerr a := by unfold gaE; rw [if_neg hv]
    have e2 : gaQ a rain = [] := by unfold gaQ; rw [e1, if_neg hv]
    rw [e1, e2] at hK
    refine acall_mk (E := envAt (G8 E) 31 0) (envOk _ _ _) Tryd.func13 rfl rfl rfl rfl rfl ?_
    (repeat' (first | exact trivial | exact fun h => h | refine And.intro ?_ ?_ | (intro hb; first | (simp at hb; done) | (simp at hb) | skip) | omega | exact rfl | exact Nat.le_refl _ | (show _ + 1 ≤ 4294967296; omega) | (dsimp only; omega) | (show (_ : Int) ≤ (_ : Int); omega) | (show _ < List.length _; simp only [List.length_set, List.length_append, List.length_take]; omega) | (show wantB _ _ = true; simp; done) | (show wantB _ _ = true; simp; omega) | (show (_ : Bool) = _; simp_all; done) | (exfalso; omega) | fail))
    refine acall_conv [.dat RasT] _ _ _ rfl trivial (acall_frame0 rfl (flood_one E a hl _ ?_))
    obtain h | h | h | h : rerr a = 1 ∨ rerr a = 2 ∨ rerr a = 3 ∨ rerr a = 4 := by omega
    all_goals
      rw [h] at hK ⊢
      (repeat' (first | exact trivial | exact fun h => h | refine And.intro ?_ ?_ | (intro hb; first | (simp at hb; done) | (simp at hb) | skip) | omega | exact rfl | exact Nat.le_refl _ | (show _ + 1 ≤ 4294967296; omega) | (dsimp only; omega) | (show (_ : Int) ≤ (_ : Int); omega) | (show _ < List.length _; simp only [List.length_set, List.length_append, List.length_take]; omega) | (show wantB _ _ = true; simp; done) | (show wantB _ _ = true; simp; omega) | (show (_ : Bool) = _; simp_all; done) | (exfalso; omega) | fail))
      refine ⟨_, _, (REnt.conv [.dat (.list int), .keep] _ rfl trivial).trans (REnt.drop ⟨rfl, rfl⟩), ?_⟩
      exact hK
end Go.Proofs.YtepkknjncpbahaaDoor
/-
  Way: the walk.
-/
namespace Go.Proofs.YtepkknjncpbahaaDoor
open Go Go.Ab
set_option maxRecDepth 100000
def stopN (to : Nat → Nat) (i t : Nat) : Prop := (∀ s, s < t → to (itF to s i) ≠ itF to s i) ∧ to (itF to t i) = itF to t i
theorem stopN_one {to : Nat → Nat} {i t u : Nat} (h1 : stopN to i t) (h2 : stopN to i u) : t = u := by
  rcases Nat.lt_trichotomy t u with h | h | h
  · exact absurd h1.2 (h2.1 t h)
  · exact h
  · exact absurd h2.2 (h1.1 u h)
def wyL (to : Nat → Nat) (i t : Nat) : List Int := lst (t + 1) (fun s => ((itF to s i : Nat) : Int))
theorem wyL_succ (to : Nat → Nat) (i t : Nat) : wyL to i t ++ [((itF to (t + 1) i : Nat) : Int)] = wyL to i (t + 1) := by
  apply List.ext_getElem
  · simp [wyL, lst_len]
  · intro s h1 h2
    simp only [wyL, List.length_append, lst_len, List.length_singleton] at h1
    by_cases e : s = t + 1
    · subst e
      simp [wyL, lst, itF]
    · have hs : s < t + 1 := by omega
      rw [List.getElem_append_left (by rw [wyL, lst_len]; exact hs)]
      simp [wyL, lst]
theorem wyL_len (to : Nat → Nat) (i t : Nat) : (wyL to i t).length = t + 1 := lst_len _ _
def wyE (a : Ras) (cell : Int) : Nat := if rerr a = 0 then (if cell < 0 ∨ (a.2.2.length : Int) ≤ cell then 4 else 0) else rerr a
set_option maxHeartbeats 4000000 in
theorem way_one (E : Errs) (a : Ras) (cell : Int) (hl : a.2.2.length ≤ 1000000000000) (K : AV → List AO → Prop)
    (hK0 : wyE a cell ≠ 0 → K (.tup [.fz (.list int) [], .fz .raw (er E (wyE a cell))]) [])
    (hK1 : wyE a cell = 0 → ∀ t, stopN (flD a.1.toNat a.2.1.toNat (hts a)).to cell.toNat t → K (.tup [.fz (.list int) (wyL (flD a.1.toNat a.2.1.toNat (hts a)).to cell.toNat t), .fz .raw .nilIface]) []) :
    ACall Tryd.prog (G8 E) 15 [.fz RasT a, .fz int cell] [] K := by
  by_cases hv : rerr a = 0
  · have R := RasN.mk' hv
    have F := flowN a.1.toNat a.2.1.toNat (hts a) R.w0
    have eF : flP a = fResP a.1.toNat a.2.1.toNat a := by unfold flP; rw [if_pos hv]
    have hln := R.len
    have hwh := R.wh
    refine acall_mk (E := envAt (G8 E) 51 0) (envOk _ _ _) Tryd.func15 rfl rfl rfl rfl rfl ?_
    (repeat' (first | exact trivial | exact fun h => h | refine And.intro ?_ ?_ | (intro hb; first | (simp at hb; done) | (simp at hb) | skip) | omega | exact rfl | exact Nat.le_refl _ | (show _ + 1 ≤ 4294967296; omega) | (dsimp only; omega) | (show (_ : Int) ≤ (_ : Int); omega) | (show _ < List.length _; simp only [List.length_set, List.length_append, List.length_take]; omega) | (show wantB _ _ = true; simp; done) | (show wantB _ _ = true; simp; omega) | (show (_ : Bool) = _; simp_all; done) | (exfalso; omega) | fail))
    refine acall_conv [.dat RasT] _ _ _ rfl trivial (acall_frame0 rfl (flood_one E a hl _ ?_))
    rw [hv, eF]
    by_cases hc : cell < 0 ∨ (a.2.2.length : Int) ≤ cell
    · have e1 : wyE a cell = 4 := by unfold wyE; rw [if_pos hv, if_pos hc]
      rw [e1] at hK0
      have hK := hK0 (by omega)
      (repeat' (first | exact trivial | exact fun h => h | refine And.intro ?_ ?_ | (intro hb; first | (simp at hb; done) | (simp at hb) | skip) | omega | exact rfl | exact Nat.le_refl _ | (show _ + 1 ≤ 4294967296; omega) | (dsimp only; omega) | (show (_ : Int) ≤ (_ : Int); omega) | (show _ < List.length _; simp only [List.length_set, List.length_append, List.length_take]; omega) | (show wantB _ _ = true; simp; done) | (show wantB _ _ = true; simp; omega) | (show (_ : Bool) = _; simp_all; done) | (exfalso; omega) | refine aRegion_auto (by decide +kernel) ?_ | fail))
      (repeat' (first | exact trivial | exact fun h => h | refine And.intro ?_ ?_ | (intro hb; first | (simp at hb; done) | (simp at hb) | skip) | omega | exact rfl | exact Nat.le_refl _ | (show _ + 1 ≤ 4294967296; omega) | (dsimp only; omega) | (show (_ : Int) ≤ (_ : Int); omega) | (show _ < List.length _; simp only [List.length_set, List.length_append, List.length_take]; omega) | (show wantB _ _ = true; simp; done) | (show wantB _ _ = true; simp; omega) | (show (_ : Bool) = _; simp_all; done) | (exfalso; omega) | refine aRegion_auto (by decide +kernel) ?_ | fail))
      refine ⟨_, _, (REnt.conv [.dat (.list int), .keep] _ rfl trivial).trans (REnt.drop ⟨rfl, rfl⟩), ?_⟩
      exact hK
    · have e1 : wyE a cell = 0 := by unfold wyE; rw [if_pos hv, if_neg hc]
      have hK := hK1 e1
      obtain ⟨c, rfl⟩ : ∃ c : Nat, cell = c := ⟨cell.toNat, by omega⟩
      rw [Int.toNat_natCast] at hK
      have hcn : c < a.1.toNat * a.2.1.toNat := by omega
      have eFl : fResP a.1.toNat a.2.1.toNat a = (lst (a.1.toNat * a.2.1.toNat) (flD a.1.toNat a.2.1.toNat (hts a)).fill, lst (a.1.toNat * a.2.1.toNat) (fun i => wayN a.1.toNat i ((flD a.1.toNat a.2.1.toNat (hts a)).to i)), natL (flD a.1.toNat a.2.1.toNat (hts a)).ord) := rfl
      rw [eFl]
      generalize (flD a.1.toNat a.2.1.toNat (hts a)).to = to at *
      generalize (flD a.1.toNat a.2.1.toNat (hts a)).ord = ord at *
      generalize lst (a.1.toNat * a.2.1.toNat) (flD a.1.toNat a.2.1.toNat (hts a)).fill = fill at *
      obtain ⟨w, hw⟩ : ∃ w, w = a.1.toNat := ⟨_, rfl⟩
      obtain ⟨h, hh⟩ : ∃ h, h = a.2.1.toNat := ⟨_, rfl⟩
      rw [← hw, ← hh] at R F hln hwh hcn ⊢
      have hL := lst_len (w * h) (fun i => wayN w i (to i))
      have hx := fun t => F.idx (F.it_lt hcn t)
      (repeat' (first | exact trivial | exact fun h => h | refine And.intro ?_ ?_ | (intro hb; first | (simp at hb; done) | (simp at hb) | skip) | omega | exact rfl | exact Nat.le_refl _ | (show _ + 1 ≤ 4294967296; omega) | (dsimp only; omega) | (show (_ : Int) ≤ (_ : Int); omega) | (show _ < List.length _; simp only [List.length_set, List.length_append, List.length_take]; omega) | (show wantB _ _ = true; simp; done) | (show wantB _ _ = true; simp; omega) | (show (_ : Bool) = _; simp_all; done) | (exfalso; omega) | fail))
      refine ⟨Nat, fun t => ⟨[(1, .fz int (itF to t c)), (2, .ptr 0 0), (6, .ptr 1 0), (8, .ref 2 0 (t + 1))], [.box [.fz int a.1, .fz int a.2.1, .fz (.list int) a.2.2], .box [.fz (.list int) fill, .fz (.list int) (lst (w * h) (fun i => wayN w i (to i))), .fz (.list int) (natL ord)], .row int (wyL to c t)]⟩, fun t => (∀ s, s < t → to (itF to s c) ≠ itF to s c) ∧ ord.idxOf (itF to t c) + t ≤ ord.idxOf c, fun t => ord.idxOf (itF to t c), 0, ⟨(fun s hs => absurd hs (Nat.not_lt_zero s)), Nat.le_refl _⟩, Ent.sub ?_ ?_, ?_⟩
      · (repeat' (first | exact rfl | refine cons_eq ?_ ?_))
      · (repeat' (first | exact trivial | exact rfl | refine And.intro ?_ ?_))
      intro t ⟨hs, hsum⟩
      have hc' := F.it_lt hcn t
      have hW := wyL_len to c t
      have g2 : (lst (w * h) (fun i => wayN w i (to i)))[itF to t c]?.getD int.dft = wayN w (itF to t c) (to (itF to t c)) := lst_get _ hc'
      by_cases he : to (itF to t c) = itF to t c
      · have hw8 : wayN w (itF to t c) (to (itF to t c)) = 8 := by rw [he, way_self]
        (repeat' (first | exact trivial | exact fun h => h | refine And.intro ?_ ?_ | (intro hb; first | (simp at hb; done) | (simp at hb) | skip) | omega | exact rfl | exact Nat.le_refl _ | (show _ + 1 ≤ 4294967296; omega) | (dsimp only; omega) | (show (_ : Int) ≤ (_ : Int); omega) | (show _ < List.length _; simp only [List.length_set, List.length_append, List.length_take]; omega) | (show wantB _ _ = true; simp; done) | (show wantB _ _ = true; simp; omega) | (show (_ : Bool) = _; simp_all; done) | (exfalso; omega) | fail))
        refine ⟨_, _, (REnt.conv [.dat (.list int), .keep] _ rfl ?_).trans (REnt.drop ⟨rfl, rfl⟩), ?_⟩
        · show 0 + _ ≤ _
          omega
        · refine (congrArg (fun l => K (.tup [.fz (.list int) l, .fz .raw .nilIface]) []) ?_).mp (hK t ⟨hs, he⟩)
          rw [List.drop_zero, List.take_of_length_le (by omega)]
      · obtain ⟨v, hv8, hwv, hnb⟩ := way_to (w := w) (h := h) (i := itF to t c) (t := to (itF to t c)) hc' (F.lt _ hc') (touchN_symm (F.touch _ hc' he))
        have g2' : List.getD (lst (w * h) (fun i => wayN w i (to i))) (Int.toNat ((itF to t c : Nat) : Int)) int.dft = wayN w (itF to t c) (to (itF to t c)) := lst_at _ hc'
        have ht := F.lt _ hc'
        have hd := F.pos _ hc' he
        have hxt := hx t
        have hs' : ∀ s, s < t + 1 → to (itF to s c) ≠ itF to s c := fun s h1 => by
          by_cases e : s = t
          · subst e; exact he
          · exact hs s (by omega)
        have hx0 := hx 0
        have htn : t < w * h := by show t < w * h; have : ord.idxOf c < w * h := hx0; omega
        have hsum' : ord.idxOf (to (itF to t c)) + (t + 1) ≤ ord.idxOf c := by omega
        (repeat' (first | exact trivial | exact fun h => h | refine And.intro ?_ ?_ | (intro hb; first | (simp at hb; done) | (simp at hb) | skip) | omega | exact rfl | exact Nat.le_refl _ | (show _ + 1 ≤ 4294967296; omega) | (dsimp only; omega) | (show (_ : Int) ≤ (_ : Int); omega) | (show _ < List.length _; simp only [List.length_set, List.length_append, List.length_take]; omega) | (show wantB _ _ = true; simp; done) | (show wantB _ _ = true; simp; omega) | (show (_ : Bool) = _; simp_all; done) | (exfalso; omega) | refine aRegion_auto (by decide +kernel) ?_ | fail))
        rw [g2', hwv]
        apply exEff
        · refine acall_conv [.dat RasT, .keep, .keep] _ _ _ rfl trivial (acall_frame0 rfl (neighbour_any _ a R (itF to t c) v hc' hv8 _ (fun u hu => ?_) (fun hnone => ?_)))
          · rw [hnb] at hu; cases hu; exact ⟨rfl, rfl⟩
          · rw [hnb] at hnone; cases hnone
        (repeat' (first | exact trivial | exact fun h => h | refine And.intro ?_ ?_ | (intro hb; first | (simp at hb; done) | (simp at hb) | skip) | omega | exact rfl | exact Nat.le_refl _ | (show _ + 1 ≤ 4294967296; omega) | (dsimp only; omega) | (show (_ : Int) ≤ (_ : Int); omega) | (show _ < List.length _; simp only [List.length_set, List.length_append, List.length_take]; omega) | (show wantB _ _ = true; simp; done) | (show wantB _ _ = true; simp; omega) | (show (_ : Bool) = _; simp_all; done) | (exfalso; omega) | refine aRegion_auto (by decide +kernel) ?_ | fail))
        refine ⟨t + 1, ⟨hs', hsum'⟩, hd, Ent.ren [0, 1, 4] rfl ?_ ?_⟩
        · (repeat' (first | exact trivial | exact rfl | refine And.intro ?_ ?_))
          refine congrArg (fun l => some (AO.row int l)) (?_ : List.take (t + 1) (wyL to c t) ++ [((itF to (t + 1) c : Nat) : Int)] = wyL to c (t + 1))
          rw [List.take_of_length_le (by omega), wyL_succ]
        · (repeat' (first | exact trivial | exact rfl | refine And.intro ?_ ?_))
  · have h4 := rerr_in a
    have e1 : wyE a cell = rerr a := by unfold wyE; rw [if_neg hv]
    rw [e1] at hK0
    have hK := hK0 hv
    refine acall_mk (E := envAt (G8 E) 51 0) (envOk _ _ _) Tryd.func15 rfl rfl rfl rfl rfl ?_
    (repeat' (first | exact trivial | exact fun h => h | refine And.intro ?_ ?_ | (intro hb; first | (simp at hb; done) | (simp at hb) | skip) | omega | exact rfl | exact Nat.le_refl _ | (show _ + 1 ≤ 4294967296; omega) | (dsimp only; omega) | (show (_ : Int) ≤ (_ : Int); omega) | (show _ < List.length _; simp only [List.length_set, List.length_append, List.length_take]; omega) | (show wantB _ _ = true; simp; done) | (show wantB _ _ = true; simp; omega) | (show (_ : Bool) = _; simp_all; done) | (exfalso; omega) | fail))
    refine acall_conv [.dat RasT] _ _ _ rfl trivial (acall_frame0 rfl (flood_one E a hl _ ?_))
    obtain h | h | h | h : rerr a = 1 ∨ rerr a = 2 ∨ rerr a = 3 ∨ rerr a = 4 := by omega
    all_goals
      rw [h] at hK ⊢
      (repeat' (first | exact trivial | exact fun h => h | refine And.intro ?_ ?_ | (intro hb; first | (simp at hb; done) | (simp at hb) | skip) | omega | exact rfl | exact Nat.le_refl _ | (show _ + 1 ≤ 4294967296; omega) | (dsimp only; omega) | (show (_ : Int) ≤ (_ : Int); omega) | (show _ < List.length _; simp only [List.length_set, List.length_append, List.length_take]; omega) | (show wantB _ _ = true; simp; done) | (show wantB _ _ = true; simp; omega) | (show (_ : Bool) = _; simp_all; done) | (exfalso; omega) | fail))
      refine ⟨_, _, (REnt.conv [.dat (.list int), .keep] _ rfl trivial).trans (REnt.drop ⟨rfl, rfl⟩), ?_⟩
      exact hK
noncomputable def wyT (to : Nat → Nat) (i : Nat) : Nat := Classical.epsilon (stopN to i)
theorem wyT_eq {to : Nat → Nat} {i t : Nat} (h : stopN to i t) : wyT to i = t := stopN_one (Classical.epsilon_spec ⟨t, h⟩) h
noncomputable def wyQ (a : Ras) (cell : Int) : List Int := if wyE a cell = 0 then wyL (flD a.1.toNat a.2.1.toNat (hts a)).to cell.toNat (wyT (flD a.1.toNat a.2.1.toNat (hts a)).to cell.toNat) else []
theorem way_two (E : Errs) (a : Ras) (cell : Int) (hl : a.2.2.length ≤ 1000000000000) (K : AV → List AO → Prop) (hK : K (.tup [.fz (.list int) (wyQ a cell), .fz .raw (er E (wyE a cell))]) []) :
    ACall Tryd.prog (G8 E) 15 [.fz RasT a, .fz int cell] [] K := by
  refine way_one E a cell hl K (fun hne => ?_) (fun h0 t ht => ?_)
  · unfold wyQ at hK
    rw [if_neg hne] at hK
    exact hK
  · unfold wyQ at hK
    rw [if_pos h0, wyT_eq ht, h0] at hK
    exact hK
end Go.Proofs.YtepkknjncpbahaaDoor
/-
  DrainGathers: the walk.
-/
namespace Go.Proofs.YtepkknjncpbahaaDoor
open Go Go.Ab
set_option maxRecDepth 100000
def rgB (b : Bool) (l : List Int) : Nat → Bool
  | 0 => b
  | k + 1 => rgB b l k && !badB (l.getD k 0)
theorem rgB_eq (b : Bool) (l : List Int) : ∀ k, k ≤ l.length → rgB b l k = (b && !(l.take k).any badB)
  | 0, _ => by unfold rgB; simp
  | k + 1, h => by
    unfold rgB
    rw [rgB_eq b l k (by omega), List.take_succ_eq_append_getElem (by omega)]
    have : l.getD k 0 = l[k] := by rw [List.getD_eq_getElem?_getD, List.getElem?_eq_getElem (by omega)]; rfl
    rw [this]
    rw [List.any_append]
    cases b <;> cases (List.take k l).any badB <;> simp
theorem rgB_end (b : Bool) (l : List Int) : rgB b l l.length = (b && !l.any badB) := by rw [rgB_eq b l _ (Nat.le_refl _), List.take_length]
set_option maxHeartbeats 4000000 in
theorem drainGathers_some {E : Errs} (hE : (EL E).Nodup) (a : Ras) (rain : List Int) (cell : Int) (hla : a.2.2.length ≤ 9223372036854775807) (hrl : rain.length ≤ 9223372036854775807) (K : AV → List AO → Prop) (hK : K (.fz .bool true) []) :
    ACall Tryd.prog (G8 E) 6 [.fptr RasT a, .fz (.list int) rain, .fz int cell] [] K := by
  refine acall_mk (E := envCut (G8 E) 168 0 [19]) (envCutOk _ _ _ _) Tryd.func6 rfl rfl rfl rfl rfl ?_
  (repeat' (first | exact trivial | exact fun h => h | refine And.intro ?_ ?_ | (intro hb; first | (simp at hb; done) | (simp at hb) | skip) | omega | exact rfl | exact Nat.le_refl _ | (show _ + 1 ≤ 4294967296; omega) | (dsimp only; omega) | (show (_ : Int) ≤ (_ : Int); omega) | (show _ < List.length _; simp only [List.length_set, List.length_append, List.length_take]; omega) | (show wantB _ _ = true; simp; done) | (show wantB _ _ = true; simp; omega) | (show (_ : Bool) = _; simp_all; done) | (exfalso; omega) | refine aRegion_auto (by decide +kernel) ?_ | refine ⟨_, _, REnt.drop ⟨rfl, rfl⟩, ?_⟩ | fail))
  refine acall_frame0 rfl (drains_any E _ ?_)
  (repeat' (first | exact trivial | exact fun h => h | refine And.intro ?_ ?_ | (intro hb; first | (simp at hb; done) | (simp at hb) | skip) | omega | exact rfl | exact Nat.le_refl _ | (show _ + 1 ≤ 4294967296; omega) | (dsimp only; omega) | (show (_ : Int) ≤ (_ : Int); omega) | (show _ < List.length _; simp only [List.length_set, List.length_append, List.length_take]; omega) | (show wantB _ _ = true; simp; done) | (show wantB _ _ = true; simp; omega) | (show (_ : Bool) = _; simp_all; done) | (exfalso; omega) | refine aRegion_auto (by decide +kernel) ?_ | refine ⟨_, _, REnt.drop ⟨rfl, rfl⟩, ?_⟩ | fail))
  refine acall_frame0 rfl (small80_any _ a _ ?_)
  (repeat' (first | exact trivial | exact fun h => h | refine And.intro ?_ ?_ | (intro hb; first | (simp at hb; done) | (simp at hb) | skip) | omega | exact rfl | exact Nat.le_refl _ | (show _ + 1 ≤ 4294967296; omega) | (dsimp only; omega) | (show (_ : Int) ≤ (_ : Int); omega) | (show _ < List.length _; simp only [List.length_set, List.length_append, List.length_take]; omega) | (show wantB _ _ = true; simp; done) | (show wantB _ _ = true; simp; omega) | (show (_ : Bool) = _; simp_all; done) | (exfalso; omega) | refine aRegion_auto (by decide +kernel) ?_ | refine ⟨_, _, REnt.drop ⟨rfl, rfl⟩, ?_⟩ | fail))
  all_goals first | exact hK | skip
  have hl : a.2.2.length ≤ 80 := by omega
  have hr2 : rain.length ≤ 200 := by omega
  refine acall_conv [.dat RasT, .keep] _ _ _ rfl trivial (acall_frame0 rfl (gather_one E a rain (by omega) (by omega) _ ?_))
  (repeat' (first | exact trivial | exact fun h => h | refine And.intro ?_ ?_ | (intro hb; first | (simp at hb; done) | (simp at hb) | skip) | omega | exact rfl | exact Nat.le_refl _ | (show _ + 1 ≤ 4294967296; omega) | (dsimp only; omega) | (show (_ : Int) ≤ (_ : Int); omega) | (show _ < List.length _; simp only [List.length_set, List.length_append, List.length_take]; omega) | (show wantB _ _ = true; simp; done) | (show wantB _ _ = true; simp; omega) | (show (_ : Bool) = _; simp_all; done) | (exfalso; omega) | refine aRegion_auto (by decide +kernel) ?_ | refine ⟨_, _, REnt.drop ⟨rfl, rfl⟩, ?_⟩ | fail))
  refine acall_conv [.dat RasT, .keep] _ _ _ rfl trivial (acall_frame0 rfl (way_two E a cell (by omega) _ ?_))
  (repeat' (first | exact trivial | exact fun h => h | refine And.intro ?_ ?_ | (intro hb; first | (simp at hb; done) | (simp at hb) | skip) | omega | exact rfl | exact Nat.le_refl _ | (show _ + 1 ≤ 4294967296; omega) | (dsimp only; omega) | (show (_ : Int) ≤ (_ : Int); omega) | (show _ < List.length _; simp only [List.length_set, List.length_append, List.length_take]; omega) | (show wantB _ _ = true; simp; done) | (show wantB _ _ = true; simp; omega) | (show (_ : Bool) = _; simp_all; done) | (exfalso; omega) | refine aRegion_auto (by decide +kernel) ?_ | refine ⟨_, _, REnt.drop ⟨rfl, rfl⟩, ?_⟩ | fail))
  refine acall_frame0 rfl (rasterError_any _ a (by omega) _ ?_)
  (repeat' (first | exact trivial | exact fun h => h | refine And.intro ?_ ?_ | (intro hb; first | (simp at hb; done) | (simp at hb) | skip) | omega | exact rfl | exact Nat.le_refl _ | (show _ + 1 ≤ 4294967296; omega) | (dsimp only; omega) | (show (_ : Int) ≤ (_ : Int); omega) | (show _ < List.length _; simp only [List.length_set, List.length_append, List.length_take]; omega) | (show wantB _ _ = true; simp; done) | (show wantB _ _ = true; simp; omega) | (show (_ : Bool) = _; simp_all; done) | (exfalso; omega) | refine aRegion_auto (by decide +kernel) ?_ | refine ⟨_, _, REnt.drop ⟨rfl, rfl⟩, ?_⟩ | fail))
  · have h4 := rerr_in a
    have hne : rerr a ≠ 0 := by omega
    have e1 : gaE a rain = rerr a := by unfold gaE; rw [if_neg hne]
    have e2 : gaQ a rain = [] := by unfold gaQ; rw [e1, if_neg hne]
    have e3 : wyE a cell = rerr a := by unfold wyE; rw [if_neg hne]
    have e4 : wyQ a cell = [] := by unfold wyQ; rw [e3, if_neg hne]
    rw [e1, e2, e3, e4]
    refine acall_frame0 rfl (coded_mercatorlaw4 hE (by omega) (rerr a) _ ?_)
    rw [decide_eq_true rfl]
    (repeat' (first | exact trivial | exact fun h => h | refine And.intro ?_ ?_ | (intro hb; first | (simp at hb; done) | (simp at hb) | skip) | omega | exact rfl | exact Nat.le_refl _ | (show _ + 1 ≤ 4294967296; omega) | (dsimp only; omega) | (show (_ : Int) ≤ (_ : Int); omega) | (show _ < List.length _; simp only [List.length_set, List.length_append, List.length_take]; omega) | (show wantB _ _ = true; simp; done) | (show wantB _ _ = true; simp; omega) | (show (_ : Bool) = _; simp_all; done) | (exfalso; omega) | refine aRegion_auto (by decide +kernel) ?_ | refine ⟨_, _, REnt.drop ⟨rfl, rfl⟩, ?_⟩ | fail))
    refine acall_frame0 rfl (coded_mercatorlaw4 hE (by omega) (rerr a) _ ?_)
    rw [decide_eq_true rfl]
    (repeat' (first | exact trivial | exact fun h => h | refine And.intro ?_ ?_ | (intro hb; first | (simp at hb; done) | (simp at hb) | skip) | omega | exact rfl | exact Nat.le_refl _ | (show _ + 1 ≤ 4294967296; omega) | (dsimp only; omega) | (show (_ : Int) ≤ (_ : Int); omega) | (show _ < List.length _; simp only [List.length_set, List.length_append, List.length_take]; omega) | (show wantB _ _ = true; simp; done) | (show wantB _ _ = true; simp; omega) | (show (_ : Bool) = _; simp_all; done) | (exfalso; omega) | refine aRegion_auto (by decide +kernel) ?_ | refine ⟨_, _, REnt.drop ⟨rfl, rfl⟩, ?_⟩ | fail))
    exact hK
  · have hv : rerr a = 0 := by omega
    have R := RasN.mk' hv
    rw [hv]
    (repeat' (first | exact trivial | exact fun h => h | refine And.intro ?_ ?_ | (intro hb; first | (simp at hb; done) | (simp at hb) | skip) | omega | exact rfl | exact Nat.le_refl _ | (show _ + 1 ≤ 4294967296; omega) | (dsimp only; omega) | (show (_ : Int) ≤ (_ : Int); omega) | (show _ < List.length _; simp only [List.length_set, List.length_append, List.length_take]; omega) | (show wantB _ _ = true; simp; done) | (show wantB _ _ = true; simp; omega) | (show (_ : Bool) = _; simp_all; done) | (exfalso; omega) | refine aRegion_auto (by decide +kernel) ?_ | refine ⟨_, _, REnt.drop ⟨rfl, rfl⟩, ?_⟩ | fail))
    have F := flowN a.1.toNat a.2.1.toNat (hts a) R.w0
    have hwh := R.wh
    obtain ⟨n, hn⟩ : ∃ n, n = a.1.toNat * a.2.1.toNat := ⟨_, rfl⟩
    have hln := R.len
    refine acall_frame0 rfl (floodOf_any _ a R _ ?_)
    have eFR : fRes a.1.toNat a.2.1.toNat a = ((fRes a.1.toNat a.2.1.toNat a).1, lst (a.1.toNat * a.2.1.toNat) (fun i => (((flD a.1.toNat a.2.1.toNat (hts a)).to i : Nat) : Int)), natL (flD a.1.toNat a.2.1.toNat (hts a)).ord) := rfl
    have eG : gaQ a rain = if gaE a rain = 0 then lst (a.1.toNat * a.2.1.toNat) (gaN (flD a.1.toNat a.2.1.toNat (hts a)).to (flD a.1.toNat a.2.1.toNat (hts a)).ord (fun i => rain.getD i 0) (a.1.toNat * a.2.1.toNat)) else [] := rfl
    have eW : wyQ a cell = if wyE a cell = 0 then wyL (flD a.1.toNat a.2.1.toNat (hts a)).to cell.toNat (wyT (flD a.1.toNat a.2.1.toNat (hts a)).to cell.toNat) else [] := rfl
    have eG1 : gaE a rain = if rain.length ≠ a.2.2.length ∨ rain.any badB = true then 3 else 0 := by unfold gaE; rw [if_pos hv]
    have eW1 : wyE a cell = if cell < 0 ∨ (a.2.2.length : Int) ≤ cell then 4 else 0 := by unfold wyE; rw [if_pos hv]
    rw [eFR]
    generalize (fRes a.1.toNat a.2.1.toNat a).1 = fill at *
    generalize (flD a.1.toNat a.2.1.toNat (hts a)).to = to at *
    generalize (flD a.1.toNat a.2.1.toNat (hts a)).ord = ord at *
    obtain ⟨w, hw⟩ : ∃ w, w = a.1.toNat := ⟨_, rfl⟩
    obtain ⟨h, hh⟩ : ∃ h, h = a.2.1.toNat := ⟨_, rfl⟩
    rw [← hw, ← hh] at R F hn hln hwh eG ⊢
    rw [← hn] at hln hwh eG ⊢
    clear eFR
    rw [hln] at eG1 eW1
    have hlt : ∀ t, ∀ u, u < n → itF to t u < n := fun t u hu => by rw [hn] at hu ⊢; exact F.it_lt hu t
    have hL := lst_len n (fun i => ((to i : Nat) : Int))
    have hoi : ∀ u, u < n → ord.idxOf u < n := fun u hu => by rw [hn] at hu ⊢; exact F.idx hu
    have hdn : ∀ u, u < n → to u ≠ u → ord.idxOf (to u) < ord.idxOf u := fun u hu => by rw [hn] at hu; exact F.pos u hu
    let bF : AO := .box [.fz (.list int) fill, .fz (.list int) (lst n (fun i => ((to i : Nat) : Int))), .fz (.list int) (natL ord)]
    have hG3 : gaE a rain ≤ 4 := by rw [eG1]; split <;> omega
    have hW3 : wyE a cell ≤ 4 := by rw [eW1]; split <;> omega
    generalize gaE a rain = ge at *
    generalize gaQ a rain = gq at *
    generalize wyE a cell = we at *
    generalize wyQ a cell = wq at *
    (repeat' (first | exact trivial | exact fun h => h | refine And.intro ?_ ?_ | (intro hb; first | (simp at hb; done) | (simp at hb) | skip) | omega | exact rfl | exact Nat.le_refl _ | (show _ + 1 ≤ 4294967296; omega) | (dsimp only; omega) | (show (_ : Int) ≤ (_ : Int); omega) | (show _ < List.length _; simp only [List.length_set, List.length_append, List.length_take]; omega) | (show wantB _ _ = true; simp; done) | (show wantB _ _ = true; simp; omega) | (show (_ : Bool) = _; simp_all; done) | (exfalso; omega) | refine aRegion_auto (by decide +kernel) ?_ | refine ⟨_, _, REnt.drop ⟨rfl, rfl⟩, ?_⟩ | fail))
    refine ⟨Nat, fun k => ⟨[(0, .fptr RasT a), (1, .fz (.list int) rain), (2, .fz int cell), (7, .fz .bool true), (9, .fz (.list int) gq), (10, .fz .raw (er E ge)), (11, .fz (.list int) wq), (12, .fz .raw (er E we)), (14, .ptr 0 0), (15, .fz .bool (rgB ((rain.length : Int) == (a.2.2.length : Int)) rain k)), (16, .fz int k)], [bF]⟩, fun k => k ≤ rain.length, fun k => rain.length - k, 0, Nat.zero_le _, Ent.sub ?_ ?_, ?_⟩
    · (repeat' (first | exact rfl | refine cons_eq ?_ ?_))
    · (repeat' (first | exact trivial | exact rfl | refine And.intro ?_ ?_))
    intro k hk
    by_cases hkn : k < rain.length
    · have q1 : List.getD rain (Int.toNat (k : Int)) int.dft = rain.getD k 0 := rfl
      have eb : rgB ((rain.length : Int) == (a.2.2.length : Int)) rain (k + 1) = (rgB ((rain.length : Int) == (a.2.2.length : Int)) rain k && !badB (rain.getD k 0)) := rfl
      show awp _ _ _ ⟨[(0, .fptr RasT a), (1, .fz (.list int) rain), (2, .fz int cell), (7, .fz .bool true), (9, .fz (.list int) gq), (10, .fz .raw (er E ge)), (11, .fz (.list int) wq), (12, .fz .raw (er E we)), (14, .ptr 0 0), (15, .fz .bool (rgB ((rain.length : Int) == (a.2.2.length : Int)) rain k)), (16, .fz int k)], [bF]⟩
      cases hrb : rgB ((rain.length : Int) == (a.2.2.length : Int)) rain k with
      | false =>
        (repeat' (first | exact trivial | exact fun h => h | refine And.intro ?_ ?_ | (intro hb; first | (simp at hb; done) | (simp at hb) | skip) | omega | exact rfl | exact Nat.le_refl _ | (show _ + 1 ≤ 4294967296; omega) | (dsimp only; omega) | (show (_ : Int) ≤ (_ : Int); omega) | (show _ < List.length _; simp only [List.length_set, List.length_append, List.length_take]; omega) | (show wantB _ _ = true; simp; done) | (show wantB _ _ = true; simp; omega) | (show (_ : Bool) = _; simp_all; done) | (exfalso; omega) | refine aRegion_auto (by decide +kernel) ?_ | refine ⟨_, _, REnt.drop ⟨rfl, rfl⟩, ?_⟩ | fail))
        refine ⟨k + 1, by show k + 1 ≤ rain.length; omega, by show rain.length - (k + 1) < rain.length - k; omega, Ent.sub ?_ ?_⟩
        · (repeat' (first | exact rfl | refine cons_eq ?_ ?_))
        · (repeat' (first | exact trivial | exact rfl | refine And.intro ?_ ?_))
          refine congrArg (AV.fz .bool) (?_ : _ = rgB ((rain.length : Int) == (a.2.2.length : Int)) rain (k + 1))
          rw [eb, hrb]; rfl
      | true =>
        (repeat' (first | exact trivial | exact fun h => h | refine And.intro ?_ ?_ | (intro hb; first | (simp at hb; done) | (simp at hb) | skip) | omega | exact rfl | exact Nat.le_refl _ | (show _ + 1 ≤ 4294967296; omega) | (dsimp only; omega) | (show (_ : Int) ≤ (_ : Int); omega) | (show _ < List.length _; simp only [List.length_set, List.length_append, List.length_take]; omega) | (show wantB _ _ = true; simp; done) | (show wantB _ _ = true; simp; omega) | (show (_ : Bool) = _; simp_all; done) | (exfalso; omega) | refine aRegion_auto (by decide +kernel) ?_ | refine ⟨_, _, REnt.drop ⟨rfl, rfl⟩, ?_⟩ | fail))
        refine ⟨k + 1, by show k + 1 ≤ rain.length; omega, by show rain.length - (k + 1) < rain.length - k; omega, Ent.sub ?_ ?_⟩
        · (repeat' (first | exact rfl | refine cons_eq ?_ ?_))
        · (repeat' (first | exact trivial | exact rfl | refine And.intro ?_ ?_))
          refine congrArg (AV.fz .bool) (?_ : _ = rgB ((rain.length : Int) == (a.2.2.length : Int)) rain (k + 1))
          rw [eb, hrb]
          show (bif decide (0 ≤ rain.getD k 0) then decide (rain.getD k 0 ≤ 1048576) else false) = (true && !badB (rain.getD k 0))
          unfold badB
          rw [Bool.eq_iff_iff]
          simp
    · have hke : k = rain.length := by omega
      subst hke
      have erg := rgB_end ((rain.length : Int) == (a.2.2.length : Int)) rain
      rw [hln] at erg
      show awp _ _ _ ⟨[(0, .fptr RasT a), (1, .fz (.list int) rain), (2, .fz int cell), (7, .fz .bool true), (9, .fz (.list int) gq), (10, .fz .raw (er E ge)), (11, .fz (.list int) wq), (12, .fz .raw (er E we)), (14, .ptr 0 0), (15, .fz .bool (rgB ((rain.length : Int) == (a.2.2.length : Int)) rain rain.length)), (16, .fz int (rain.length : Nat))], [bF]⟩
      rw [hln]
      generalize rgB ((rain.length : Int) == (n : Int)) rain rain.length = rr at *
      by_cases hok : rain.length = n ∧ rain.any badB = false
      · have hrr : rr = true := by rw [erg, hok.1, hok.2]; simp
        have e0 : ge = 0 := by rw [eG1, if_neg (by rw [hok.2]; simp [hok.1])]
        subst hrr e0
        rw [if_pos rfl] at eG
        subst eG
        have hr : ∀ u, u < w * h → 0 ≤ rain.getD u 0 ∧ rain.getD u 0 ≤ 1048576 := fun u hu => by
          refine badB_no ?_
          have hu' : u < rain.length := by omega
          have := List.any_eq_false.1 hok.2 (rain[u]) (List.getElem_mem hu')
          rw [List.getD_eq_getElem?_getD, List.getElem?_eq_getElem hu']
          simpa using this
        have eR : rain = lst (w * h) (fun i => rain.getD i 0) := by rw [← hn, ← hok.1]; exact (lst_of rain).symm
        have hL2 := lst_len n (gaN to ord (fun i => rain.getD i 0) n)
        (repeat' (first | exact trivial | exact fun h => h | refine And.intro ?_ ?_ | (intro hb; first | (simp at hb; done) | (simp at hb) | skip) | omega | exact rfl | exact Nat.le_refl _ | (show _ + 1 ≤ 4294967296; omega) | (dsimp only; omega) | (show (_ : Int) ≤ (_ : Int); omega) | (show _ < List.length _; simp only [List.length_set, List.length_append, List.length_take]; omega) | (show wantB _ _ = true; simp; done) | (show wantB _ _ = true; simp; omega) | (show (_ : Bool) = _; simp_all; done) | (exfalso; omega) | refine aRegion_auto (by decide +kernel) ?_ | refine ⟨_, _, REnt.drop ⟨rfl, rfl⟩, ?_⟩ | fail))
        refine acall_conv [.dat FT, .keep] _ _ _ rfl ?_ (acall_frame0 rfl (acall_arg (gatherOf_any _ (fill, lst n (fun i => ((to i : Nat) : Int)), natL ord) F (by omega) (by rw [hn]) (fun i => rain.getD i 0) hr _ ?_) (by rw [← eR]; rfl)))
        · (repeat' (first | exact trivial | refine And.intro ?_ ?_ | (show _ ≤ _; omega) | (show _ ≤ _; simp; done)))
        rw [← hn]
        (repeat' (first | exact trivial | exact fun h => h | refine And.intro ?_ ?_ | (intro hb; first | (simp at hb; done) | (simp at hb) | skip) | omega | exact rfl | exact Nat.le_refl _ | (show _ + 1 ≤ 4294967296; omega) | (dsimp only; omega) | (show (_ : Int) ≤ (_ : Int); omega) | (show _ < List.length _; simp only [List.length_set, List.length_append, List.length_take]; omega) | (show wantB _ _ = true; simp; done) | (show wantB _ _ = true; simp; omega) | (show (_ : Bool) = _; simp_all; done) | (exfalso; omega) | refine aRegion_auto (by decide +kernel) ?_ | refine ⟨_, _, REnt.drop ⟨rfl, rfl⟩, ?_⟩ | fail))
        refine acall_conv [.keep, .dat (.list int)] _ _ _ rfl ?_ (acall_frame0 rfl (sameInts_mercatorlaw4 _ _ _ (by omega) _ ?_))
        · (repeat' (first | exact trivial | refine And.intro ?_ ?_ | (show _ ≤ _; omega) | (show _ ≤ _; simp; done)))
        rw [List.drop_zero, List.take_of_length_le (by omega), decide_eq_true rfl]
        (repeat' (first | exact trivial | exact fun h => h | refine And.intro ?_ ?_ | (intro hb; first | (simp at hb; done) | (simp at hb) | skip) | omega | exact rfl | exact Nat.le_refl _ | (show _ + 1 ≤ 4294967296; omega) | (dsimp only; omega) | (show (_ : Int) ≤ (_ : Int); omega) | (show _ < List.length _; simp only [List.length_set, List.length_append, List.length_take]; omega) | (show wantB _ _ = true; simp; done) | (show wantB _ _ = true; simp; omega) | (show (_ : Bool) = _; simp_all; done) | (exfalso; omega) | refine aRegion_auto (by decide +kernel) ?_ | refine ⟨_, _, REnt.drop ⟨rfl, rfl⟩, ?_⟩ | fail))
        refine ⟨[(0, .fptr RasT a), (2, .fz int cell), (7, .fz .bool true), (11, .fz (.list int) wq), (12, .fz .raw (er E we)), (14, .ptr 0 0)], [bF], Ent.ren [0] rfl ?_ ?_, ?_⟩
        · (repeat' (first | exact trivial | exact rfl | refine And.intro ?_ ?_))
        · (repeat' (first | exact trivial | exact rfl | refine And.intro ?_ ?_))
        by_cases hc : cell < 0 ∨ (n : Int) ≤ cell
        · have hw4 : we = 4 := by rw [eW1, if_pos hc]
          subst hw4
          rw [if_neg (by omega)] at eW
          subst eW
          (repeat' (first | exact trivial | exact fun h => h | refine And.intro ?_ ?_ | (intro hb; first | (simp at hb; done) | (simp at hb) | skip) | omega | exact rfl | exact Nat.le_refl _ | (show _ + 1 ≤ 4294967296; omega) | (dsimp only; omega) | (show (_ : Int) ≤ (_ : Int); omega) | (show _ < List.length _; simp only [List.length_set, List.length_append, List.length_take]; omega) | (show wantB _ _ = true; simp; done) | (show wantB _ _ = true; simp; omega) | (show (_ : Bool) = _; simp_all; done) | (exfalso; omega) | refine aRegion_auto (by decide +kernel) ?_ | refine ⟨_, _, REnt.drop ⟨rfl, rfl⟩, ?_⟩ | fail))
          refine acall_frame0 rfl (coded_mercatorlaw4 hE (by omega) 4 _ ?_)
          rw [show decide (((4 : Nat) : Int) = 4) = true from rfl]
          (repeat' (first | exact trivial | exact fun h => h | refine And.intro ?_ ?_ | (intro hb; first | (simp at hb; done) | (simp at hb) | skip) | omega | exact rfl | exact Nat.le_refl _ | (show _ + 1 ≤ 4294967296; omega) | (dsimp only; omega) | (show (_ : Int) ≤ (_ : Int); omega) | (show _ < List.length _; simp only [List.length_set, List.length_append, List.length_take]; omega) | (show wantB _ _ = true; simp; done) | (show wantB _ _ = true; simp; omega) | (show (_ : Bool) = _; simp_all; done) | (exfalso; omega) | refine aRegion_auto (by decide +kernel) ?_ | refine ⟨_, _, REnt.drop ⟨rfl, rfl⟩, ?_⟩ | fail))
          exact hK
        · have hw4 : we = 0 := by rw [eW1, if_neg hc]
          subst hw4
          rw [if_pos rfl] at eW
          obtain ⟨c, rfl⟩ : ∃ c : Nat, cell = c := ⟨cell.toNat, by omega⟩
          rw [Int.toNat_natCast] at eW
          have hcn : c < n := by omega
          have hx := fun t => hoi _ (hlt t c hcn)
          (repeat' (first | exact trivial | exact fun h => h | refine And.intro ?_ ?_ | (intro hb; first | (simp at hb; done) | (simp at hb) | skip) | omega | exact rfl | exact Nat.le_refl _ | (show _ + 1 ≤ 4294967296; omega) | (dsimp only; omega) | (show (_ : Int) ≤ (_ : Int); omega) | (show _ < List.length _; simp only [List.length_set, List.length_append, List.length_take]; omega) | (show wantB _ _ = true; simp; done) | (show wantB _ _ = true; simp; omega) | (show (_ : Bool) = _; simp_all; done) | (exfalso; omega) | refine aRegion_auto (by decide +kernel) ?_ | refine ⟨_, _, REnt.drop ⟨rfl, rfl⟩, ?_⟩ | fail))
          refine ⟨Nat, fun t => ⟨[(2, .fz int (itF to t c)), (7, .fz .bool true), (11, .fz (.list int) wq), (12, .fz .raw (er E 0)), (14, .ptr 0 0), (17, .ref 1 0 (t + 1))], [bF, .row int (wyL to c t)]⟩, fun t => (∀ s, s < t → to (itF to s c) ≠ itF to s c) ∧ ord.idxOf (itF to t c) + t ≤ ord.idxOf c, fun t => ord.idxOf (itF to t c), 0, ⟨(fun s hs => absurd hs (Nat.not_lt_zero s)), Nat.le_refl _⟩, Ent.sub ?_ ?_, ?_⟩
          · (repeat' (first | exact rfl | refine cons_eq ?_ ?_))
          · (repeat' (first | exact trivial | exact rfl | refine And.intro ?_ ?_))
          intro t ⟨hs, hsum⟩
          have hc' := hlt t c hcn
          have hW := wyL_len to c t
          have g2 : (lst n (fun i => ((to i : Nat) : Int)))[itF to t c]?.getD int.dft = ((to (itF to t c) : Nat) : Int) := lst_get (fun i => ((to i : Nat) : Int)) hc'
          have hx0 : ord.idxOf c < n := hx 0
          by_cases he : to (itF to t c) = itF to t c
          · have ht : wyT to c = t := wyT_eq ⟨hs, he⟩
            rw [ht] at eW
            subst eW
            have hW2 : (wyL to c t).length ≤ 1000000000000 := by omega
            (repeat' (first | exact trivial | exact fun h => h | refine And.intro ?_ ?_ | (intro hb; first | (simp at hb; done) | (simp at hb) | skip) | omega | exact rfl | exact Nat.le_refl _ | (show _ + 1 ≤ 4294967296; omega) | (dsimp only; omega) | (show (_ : Int) ≤ (_ : Int); omega) | (show _ < List.length _; simp only [List.length_set, List.length_append, List.length_take]; omega) | (show wantB _ _ = true; simp; done) | (show wantB _ _ = true; simp; omega) | (show (_ : Bool) = _; simp_all; done) | (exfalso; omega) | refine aRegion_auto (by decide +kernel) ?_ | refine ⟨_, _, REnt.drop ⟨rfl, rfl⟩, ?_⟩ | fail))
            refine acall_conv [.keep, .dat (.list int)] _ _ _ rfl ?_ (acall_frame0 rfl (sameInts_mercatorlaw4 _ _ _ (by omega) _ ?_))
            · (repeat' (first | exact trivial | refine And.intro ?_ ?_ | (show _ ≤ _; omega) | (show _ ≤ _; simp; done)))
            rw [List.drop_zero, List.take_of_length_le (by omega), decide_eq_true rfl]
            (repeat' (first | exact trivial | exact fun h => h | refine And.intro ?_ ?_ | (intro hb; first | (simp at hb; done) | (simp at hb) | skip) | omega | exact rfl | exact Nat.le_refl _ | (show _ + 1 ≤ 4294967296; omega) | (dsimp only; omega) | (show (_ : Int) ≤ (_ : Int); omega) | (show _ < List.length _; simp only [List.length_set, List.length_append, List.length_take]; omega) | (show wantB _ _ = true; simp; done) | (show wantB _ _ = true; simp; omega) | (show (_ : Bool) = _; simp_all; done) | (exfalso; omega) | refine aRegion_auto (by decide +kernel) ?_ | refine ⟨_, _, REnt.drop ⟨rfl, rfl⟩, ?_⟩ | fail))
            exact hK
          · have ht := hlt (t + 1) c hcn
            have hd := hdn _ hc' he
            have hxt := hx t
            have hs' : ∀ s, s < t + 1 → to (itF to s c) ≠ itF to s c := fun s h1 => by
              by_cases e : s = t
              · subst e; exact he
              · exact hs s (by omega)
            have hsum' : ord.idxOf (to (itF to t c)) + (t + 1) ≤ ord.idxOf c := by omega
            have g1 : List.getD (lst n (fun i => ((to i : Nat) : Int))) (Int.toNat ((itF to t c : Nat) : Int)) int.dft = ((to (itF to t c) : Nat) : Int) := lst_at (fun i => ((to i : Nat) : Int)) hc'
            (repeat' (first | exact trivial | exact fun h => h | refine And.intro ?_ ?_ | (intro hb; first | (simp at hb; done) | (simp at hb) | skip) | omega | exact rfl | exact Nat.le_refl _ | (show _ + 1 ≤ 4294967296; omega) | (dsimp only; omega) | (show (_ : Int) ≤ (_ : Int); omega) | (show _ < List.length _; simp only [List.length_set, List.length_append, List.length_take]; omega) | (show wantB _ _ = true; simp; done) | (show wantB _ _ = true; simp; omega) | (show (_ : Bool) = _; simp_all; done) | (exfalso; omega) | refine aRegion_auto (by decide +kernel) ?_ | refine ⟨_, _, REnt.drop ⟨rfl, rfl⟩, ?_⟩ | fail))
            refine ⟨t + 1, ⟨hs', hsum'⟩, hd, Ent.ren [0, 3] rfl ?_ ?_⟩
            · (repeat' (first | exact trivial | exact rfl | refine And.intro ?_ ?_))
              refine congrArg (fun l => some (AO.row int l)) (?_ : List.take (t + 1) (wyL to c t) ++ [List.getD (lst n (fun i => ((to i : Nat) : Int))) (Int.toNat ((itF to t c : Nat) : Int)) int.dft] = wyL to c (t + 1))
              rw [g1, List.take_of_length_le (by omega)]
              exact wyL_succ to c t
            · (repeat' (first | exact trivial | exact rfl | refine And.intro ?_ ?_))
              exact congrArg (AV.fz int) g1
      · have hrr : rr = false := by
          rw [erg]
          by_cases e : rain.length = n
          · have : rain.any badB = true := by
              cases hh : rain.any badB with
              | true => rfl
              | false => exact absurd ⟨e, hh⟩ hok
            rw [this]; simp
          · have : ¬ (rain.length : Int) = n := by omega
            simp [this]
        have e0 : ge = 3 := by
          rw [eG1, if_pos]
          by_cases e : rain.length = n
          · right
            cases hh : rain.any badB with
            | true => rfl
            | false => exact absurd ⟨e, hh⟩ hok
          · exact .inl e
        subst hrr e0
        rw [if_neg (by omega)] at eG
        subst eG
        (repeat' (first | exact trivial | exact fun h => h | refine And.intro ?_ ?_ | (intro hb; first | (simp at hb; done) | (simp at hb) | skip) | omega | exact rfl | exact Nat.le_refl _ | (show _ + 1 ≤ 4294967296; omega) | (dsimp only; omega) | (show (_ : Int) ≤ (_ : Int); omega) | (show _ < List.length _; simp only [List.length_set, List.length_append, List.length_take]; omega) | (show wantB _ _ = true; simp; done) | (show wantB _ _ = true; simp; omega) | (show (_ : Bool) = _; simp_all; done) | (exfalso; omega) | refine aRegion_auto (by decide +kernel) ?_ | refine ⟨_, _, REnt.drop ⟨rfl, rfl⟩, ?_⟩ | fail))
        refine acall_frame0 rfl (coded_mercatorlaw4 hE (by omega) 3 _ ?_)
        rw [show decide (((3 : Nat) : Int) = 3) = true from rfl]
        (repeat' (first | exact trivial | exact fun h => h | refine And.intro ?_ ?_ | (intro hb; first | (simp at hb; done) | (simp at hb) | skip) | omega | exact rfl | exact Nat.le_refl _ | (show _ + 1 ≤ 4294967296; omega) | (dsimp only; omega) | (show (_ : Int) ≤ (_ : Int); omega) | (show _ < List.length _; simp only [List.length_set, List.length_append, List.length_take]; omega) | (show wantB _ _ = true; simp; done) | (show wantB _ _ = true; simp; omega) | (show (_ : Bool) = _; simp_all; done) | (exfalso; omega) | refine aRegion_auto (by decide +kernel) ?_ | refine ⟨_, _, REnt.drop ⟨rfl, rfl⟩, ?_⟩ | fail))
        refine ⟨[(0, .fptr RasT a), (2, .fz int cell), (7, .fz .bool true), (11, .fz (.list int) wq), (12, .fz .raw (er E we)), (14, .ptr 0 0)], [bF], Ent.ren [0] rfl ?_ ?_, ?_⟩
        · (repeat' (first | exact trivial | exact rfl | refine And.intro ?_ ?_))
        · (repeat' (first | exact trivial | exact rfl | refine And.intro ?_ ?_))
        by_cases hc : cell < 0 ∨ (n : Int) ≤ cell
        · have hw4 : we = 4 := by rw [eW1, if_pos hc]
          subst hw4
          rw [if_neg (by omega)] at eW
          subst eW
          (repeat' (first | exact trivial | exact fun h => h | refine And.intro ?_ ?_ | (intro hb; first | (simp at hb; done) | (simp at hb) | skip) | omega | exact rfl | exact Nat.le_refl _ | (show _ + 1 ≤ 4294967296; omega) | (dsimp only; omega) | (show (_ : Int) ≤ (_ : Int); omega) | (show _ < List.length _; simp only [List.length_set, List.length_append, List.length_take]; omega) | (show wantB _ _ = true; simp; done) | (show wantB _ _ = true; simp; omega) | (show (_ : Bool) = _; simp_all; done) | (exfalso; omega) | refine aRegion_auto (by decide +kernel) ?_ | refine ⟨_, _, REnt.drop ⟨rfl, rfl⟩, ?_⟩ | fail))
          refine acall_frame0 rfl (coded_mercatorlaw4 hE (by omega) 4 _ ?_)
          rw [show decide (((4 : Nat) : Int) = 4) = true from rfl]
          (repeat' (first | exact trivial | exact fun h => h | refine And.intro ?_ ?_ | (intro hb; first | (simp at hb; done) | (simp at hb) | skip) | omega | exact rfl | exact Nat.le_refl _ | (show _ + 1 ≤ 4294967296; omega) | (dsimp only; omega) | (show (_ : Int) ≤ (_ : Int); omega) | (show _ < List.length _; simp only [List.length_set, List.length_append, List.length_take]; omega) | (show wantB _ _ = true; simp; done) | (show wantB _ _ = true; simp; omega) | (show (_ : Bool) = _; simp_all; done) | (exfalso; omega) | refine aRegion_auto (by decide +kernel) ?_ | refine ⟨_, _, REnt.drop ⟨rfl, rfl⟩, ?_⟩ | fail))
          exact hK
        · have hw4 : we = 0 := by rw [eW1, if_neg hc]
          subst hw4
          rw [if_pos rfl] at eW
          obtain ⟨c, rfl⟩ : ∃ c : Nat, cell = c := ⟨cell.toNat, by omega⟩
          rw [Int.toNat_natCast] at eW
          have hcn : c < n := by omega
          have hx := fun t => hoi _ (hlt t c hcn)
          (repeat' (first | exact trivial | exact fun h => h | refine And.intro ?_ ?_ | (intro hb; first | (simp at hb; done) | (simp at hb) | skip) | omega | exact rfl | exact Nat.le_refl _ | (show _ + 1 ≤ 4294967296; omega) | (dsimp only; omega) | (show (_ : Int) ≤ (_ : Int); omega) | (show _ < List.length _; simp only [List.length_set, List.length_append, List.length_take]; omega) | (show wantB _ _ = true; simp; done) | (show wantB _ _ = true; simp; omega) | (show (_ : Bool) = _; simp_all; done) | (exfalso; omega) | refine aRegion_auto (by decide +kernel) ?_ | refine ⟨_, _, REnt.drop ⟨rfl, rfl⟩, ?_⟩ | fail))
          refine ⟨Nat, fun t => ⟨[(2, .fz int (itF to t c)), (7, .fz .bool true), (11, .fz (.list int) wq), (12, .fz .raw (er E 0)), (14, .ptr 0 0), (17, .ref 1 0 (t + 1))], [bF, .row int (wyL to c t)]⟩, fun t => (∀ s, s < t → to (itF to s c) ≠ itF to s c) ∧ ord.idxOf (itF to t c) + t ≤ ord.idxOf c, fun t => ord.idxOf (itF to t c), 0, ⟨(fun s hs => absurd hs (Nat.not_lt_zero s)), Nat.le_refl _⟩, Ent.sub ?_ ?_, ?_⟩
          · (repeat' (first | exact rfl | refine cons_eq ?_ ?_))
          · (repeat' (first | exact trivial | exact rfl | refine And.intro ?_ ?_))
          intro t ⟨hs, hsum⟩
          have hc' := hlt t c hcn
          have hW := wyL_len to c t
          have g2 : (lst n (fun i => ((to i : Nat) : Int)))[itF to t c]?.getD int.dft = ((to (itF to t c) : Nat) : Int) := lst_get (fun i => ((to i : Nat) : Int)) hc'
          have hx0 : ord.idxOf c < n := hx 0
          by_cases he : to (itF to t c) = itF to t c
          · have ht : wyT to c = t := wyT_eq ⟨hs, he⟩
            rw [ht] at eW
            subst eW
            have hW2 : (wyL to c t).length ≤ 1000000000000 := by omega
            (repeat' (first | exact trivial | exact fun h => h | refine And.intro ?_ ?_ | (intro hb; first | (simp at hb; done) | (simp at hb) | skip) | omega | exact rfl | exact Nat.le_refl _ | (show _ + 1 ≤ 4294967296; omega) | (dsimp only; omega) | (show (_ : Int) ≤ (_ : Int); omega) | (show _ < List.length _; simp only [List.length_set, List.length_append, List.length_take]; omega) | (show wantB _ _ = true; simp; done) | (show wantB _ _ = true; simp; omega) | (show (_ : Bool) = _; simp_all; done) | (exfalso; omega) | refine aRegion_auto (by decide +kernel) ?_ | refine ⟨_, _, REnt.drop ⟨rfl, rfl⟩, ?_⟩ | fail))
            refine acall_conv [.keep, .dat (.list int)] _ _ _ rfl ?_ (acall_frame0 rfl (sameInts_mercatorlaw4 _ _ _ (by omega) _ ?_))
            · (repeat' (first | exact trivial | refine And.intro ?_ ?_ | (show _ ≤ _; omega) | (show _ ≤ _; simp; done)))
            rw [List.drop_zero, List.take_of_length_le (by omega), decide_eq_true rfl]
            (repeat' (first | exact trivial | exact fun h => h | refine And.intro ?_ ?_ | (intro hb; first | (simp at hb; done) | (simp at hb) | skip) | omega | exact rfl | exact Nat.le_refl _ | (show _ + 1 ≤ 4294967296; omega) | (dsimp only; omega) | (show (_ : Int) ≤ (_ : Int); omega) | (show _ < List.length _; simp only [List.length_set, List.length_append, List.length_take]; omega) | (show wantB _ _ = true; simp; done) | (show wantB _ _ = true; simp; omega) | (show (_ : Bool) = _; simp_all; done) | (exfalso; omega) | refine aRegion_auto (by decide +kernel) ?_ | refine ⟨_, _, REnt.drop ⟨rfl, rfl⟩, ?_⟩ | fail))
            exact hK
          · have ht := hlt (t + 1) c hcn
            have hd := hdn _ hc' he
            have hxt := hx t
            have hs' : ∀ s, s < t + 1 → to (itF to s c) ≠ itF to s c := fun s h1 => by
              by_cases e : s = t
              · subst e; exact he
              · exact hs s (by omega)
            have hsum' : ord.idxOf (to (itF to t c)) + (t + 1) ≤ ord.idxOf c := by omega
            have g1 : List.getD (lst n (fun i => ((to i : Nat) : Int))) (Int.toNat ((itF to t c : Nat) : Int)) int.dft = ((to (itF to t c) : Nat) : Int) := lst_at (fun i => ((to i : Nat) : Int)) hc'
            (repeat' (first | exact trivial | exact fun h => h | refine And.intro ?_ ?_ | (intro hb; first | (simp at hb; done) | (simp at hb) | skip) | omega | exact rfl | exact Nat.le_refl _ | (show _ + 1 ≤ 4294967296; omega) | (dsimp only; omega) | (show (_ : Int) ≤ (_ : Int); omega) | (show _ < List.length _; simp only [List.length_set, List.length_append, List.length_take]; omega) | (show wantB _ _ = true; simp; done) | (show wantB _ _ = true; simp; omega) | (show (_ : Bool) = _; simp_all; done) | (exfalso; omega) | refine aRegion_auto (by decide +kernel) ?_ | refine ⟨_, _, REnt.drop ⟨rfl, rfl⟩, ?_⟩ | fail))
            refine ⟨t + 1, ⟨hs', hsum'⟩, hd, Ent.ren [0, 3] rfl ?_ ?_⟩
            · (repeat' (first | exact trivial | exact rfl | refine And.intro ?_ ?_))
              refine congrArg (fun l => some (AO.row int l)) (?_ : List.take (t + 1) (wyL to c t) ++ [List.getD (lst n (fun i => ((to i : Nat) : Int))) (Int.toNat ((itF to t c : Nat) : Int)) int.dft] = wyL to c (t + 1))
              rw [g1, List.take_of_length_le (by omega)]
              exact wyL_succ to c t
            · (repeat' (first | exact trivial | exact rfl | refine And.intro ?_ ?_))
              exact congrArg (AV.fz int) g1
theorem drainGathers_nil {E : Errs} (rain : List Int) (cell : Int) (K : AV → List AO → Prop) (hK : K (.fz .bool true) []) :
    ACall Tryd.prog (G8 E) 6 [.fz .raw (.pointer none), .fz (.list int) rain, .fz int cell] [] K := by
  refine acall_mk (E := envAt (G8 E) 168 0) (envOk _ _ _) Tryd.func6 rfl rfl rfl rfl rfl ?_
  (repeat' (first | exact trivial | exact fun h => h | refine And.intro ?_ ?_ | (intro hb; first | (simp at hb; done) | (simp at hb) | skip) | omega | exact rfl | exact Nat.le_refl _ | (show _ + 1 ≤ 4294967296; omega) | (dsimp only; omega) | (show (_ : Int) ≤ (_ : Int); omega) | (show _ < List.length _; simp only [List.length_set, List.length_append, List.length_take]; omega) | (show wantB _ _ = true; simp; done) | (show wantB _ _ = true; simp; omega) | (show (_ : Bool) = _; simp_all; done) | (exfalso; omega) | refine aRegion_auto (by decide +kernel) ?_ | refine ⟨_, _, REnt.drop ⟨rfl, rfl⟩, ?_⟩ | fail))
  refine acall_frame0 rfl (drains_any E _ ?_)
  (repeat' (first | exact trivial | exact fun h => h | refine And.intro ?_ ?_ | (intro hb; first | (simp at hb; done) | (simp at hb) | skip) | omega | exact rfl | exact Nat.le_refl _ | (show _ + 1 ≤ 4294967296; omega) | (dsimp only; omega) | (show (_ : Int) ≤ (_ : Int); omega) | (show _ < List.length _; simp only [List.length_set, List.length_append, List.length_take]; omega) | (show wantB _ _ = true; simp; done) | (show wantB _ _ = true; simp; omega) | (show (_ : Bool) = _; simp_all; done) | (exfalso; omega) | refine aRegion_auto (by decide +kernel) ?_ | refine ⟨_, _, REnt.drop ⟨rfl, rfl⟩, ?_⟩ | fail))
  refine acall_frame0 rfl (small80_nil _ _ ?_)
  (repeat' (first | exact trivial | exact fun h => h | refine And.intro ?_ ?_ | (intro hb; first | (simp at hb; done) | (simp at hb) | skip) | omega | exact rfl | exact Nat.le_refl _ | (show _ + 1 ≤ 4294967296; omega) | (dsimp only; omega) | (show (_ : Int) ≤ (_ : Int); omega) | (show _ < List.length _; simp only [List.length_set, List.length_append, List.length_take]; omega) | (show wantB _ _ = true; simp; done) | (show wantB _ _ = true; simp; omega) | (show (_ : Bool) = _; simp_all; done) | (exfalso; omega) | refine aRegion_auto (by decide +kernel) ?_ | refine ⟨_, _, REnt.drop ⟨rfl, rfl⟩, ?_⟩ | fail))
  exact hK
end Go.Proofs.YtepkknjncpbahaaDoor
/-
  Streams: which cells are such, how many flow into each: the walk of the program's.
-/
namespace Go.Proofs.YtepkknjncpbahaaDoor
open Go Go.Ab
set_option maxRecDepth 100000
def lsb (n : Nat) (f : Nat → Bool) : List Bool := (List.range n).map f
theorem lsb_len (n : Nat) (f : Nat → Bool) : (lsb n f).length = n := by simp [lsb]
theorem lsb_at {n i : Nat} (f : Nat → Bool) (h : i < n) : (lsb n f).getD i false = f i := by simp [lsb, List.getD, h]
theorem lsb_get {n i : Nat} (f : Nat → Bool) (h : i < n) : (lsb n f)[i]?.getD Ty.bool.dft = f i := by simp [lsb, h]
theorem lsb_congr {n : Nat} {f g : Nat → Bool} (h : ∀ i, i < n → f i = g i) : lsb n f = lsb n g := List.map_congr_left fun i hi => h i (List.mem_range.1 hi)
theorem lsb_set {n i : Nat} (f : Nat → Bool) (v : Bool) : List.set (lsb n f) i v = lsb n (fun j => if j = i then v else f j) := by
  refine List.ext_getElem (by simp [lsb]) fun j h1 h2 => ?_
  simp only [lsb, List.getElem_set, List.getElem_map, List.getElem_range]
  by_cases h : i = j
  · subst h; simp
  · rw [if_neg h, if_neg (Ne.symm h)]
theorem lsb_zero (n : Nat) : List.replicate n false = lsb n (fun _ => false) := by
  refine List.ext_getElem (by simp [lsb]) fun j h1 h2 => ?_
  simp [lsb]
theorem rowb_set {n k : Nat} {f g : Nat → Bool} {v : Bool} (v' : Bool) (hv : v = v') (h : ∀ i, i < n → (if i = k then v' else f i) = g i) : AO.row .bool (List.set (lsb n f) (0 + Int.toNat (k : Int)) v) = AO.row .bool (lsb n g) := by
  subst hv
  rw [Nat.zero_add, Int.toNat_natCast, lsb_set]; exact congrArg (AO.row .bool) (lsb_congr h)
abbrev NetT : Ty := .pair FT (.pair (.list .bool) (.list int))
def onN (ga : Nat → Int) (least : Int) (i : Nat) : Bool := decide (least ≤ ga i)
/-- how many of the first k stream cells flow into a cell -/
def inN (to : Nat → Nat) (on : Nat → Bool) : Nat → Nat → Int
  | 0, _ => 0
  | k + 1, j => if (on k = true ∧ to k ≠ k) ∧ j = to k then inN to on k j + 1 else inN to on k j
theorem inN_bd {to : Nat → Nat} {on : Nat → Bool} : ∀ k j, 0 ≤ inN to on k j ∧ inN to on k j ≤ k
  | 0, _ => ⟨Int.le_refl _, Int.le_refl _⟩
  | k + 1, j => by
    have := inN_bd (to := to) (on := on) k j
    unfold inN
    split <;> omega
/-- what is in the net's stream list when k are over -/
def sN (on : Nat → Bool) (k i : Nat) : Bool := if i < k then on i else false
def oneK (k i : Nat) : Int := if i < k then 1 else 0
def strE (a : Ras) (least : Int) : Nat := if rerr a = 0 then (if least < 1 then 3 else 0) else rerr a
def gaO (a : Ras) : Nat → Int := gaN (flD a.1.toNat a.2.1.toNat (hts a)).to (flD a.1.toNat a.2.1.toNat (hts a)).ord (fun _ => 1) (a.1.toNat * a.2.1.toNat)
def strNet (a : Ras) (least : Int) : NetT.den := (fResP a.1.toNat a.2.1.toNat a, lsb (a.1.toNat * a.2.1.toNat) (onN (gaO a) least), lst (a.1.toNat * a.2.1.toNat) (inN (flD a.1.toNat a.2.1.toNat (hts a)).to (onN (gaO a) least) (a.1.toNat * a.2.1.toNat)))
set_option maxHeartbeats 4000000 in
theorem streams_one (E : Errs) (a : Ras) (least : Int) (hl : a.2.2.length ≤ 1000000000000) (K : AV → List AO → Prop)
    (hK0 : strE a least ≠ 0 → K (.tup [.fz NetT NetT.dft, .fz .raw (er E (strE a least))]) [])
    (hK1 : strE a least = 0 → K (.tup [.fz NetT (strNet a least), .fz .raw .nilIface]) []) :
    ACall Tryd.prog (G8 E) 46 [.fz RasT a, .fz int least] [] K := by
  by_cases hv : rerr a = 0
  · have R := RasN.mk' hv
    have F := flowN a.1.toNat a.2.1.toNat (hts a) R.w0
    have eF : flP a = fResP a.1.toNat a.2.1.toNat a := by unfold flP; rw [if_pos hv]
    have hln := R.len
    have hwh := R.wh
    refine acall_mk (E := envCut (G8 E) 101 0 [17]) (envCutOk _ _ _ _) Tryd.func46 rfl rfl rfl rfl rfl ?_
    (repeat' (first | exact trivial | exact fun h => h | refine And.intro ?_ ?_ | (intro hb; first | (simp at hb; done) | (simp at hb) | skip) | omega | exact rfl | exact Nat.le_refl _ | (show _ + 1 ≤ 4294967296; omega) | (dsimp only; omega) | (show (_ : Int) ≤ (_ : Int); omega) | (show _ < List.length _; simp only [List.length_set, List.length_append, List.length_take]; omega) | (show wantB _ _ = true; simp; done) | (show wantB _ _ = true; simp; omega) | (show (_ : Bool) = _; simp_all; done) | (exfalso; omega) | fail))
    refine acall_conv [.dat RasT] _ _ _ rfl ?_ (acall_frame0 rfl (flood_one E a hl _ ?_))
    · (repeat' (first | exact trivial | refine And.intro ?_ ?_ | (show _ ≤ _; omega) | (show _ ≤ _; simp; done)))
    rw [hv, eF]
    by_cases hc : least < 1
    · have e1 : strE a least = 3 := by unfold strE; rw [if_pos hv, if_pos hc]
      rw [e1] at hK0
      have hK := hK0 (by omega)
      (repeat' (first | exact trivial | exact fun h => h | refine And.intro ?_ ?_ | (intro hb; first | (simp at hb; done) | (simp at hb) | skip) | omega | exact rfl | exact Nat.le_refl _ | (show _ + 1 ≤ 4294967296; omega) | (dsimp only; omega) | (show (_ : Int) ≤ (_ : Int); omega) | (show _ < List.length _; simp only [List.length_set, List.length_append, List.length_take]; omega) | (show wantB _ _ = true; simp; done) | (show wantB _ _ = true; simp; omega) | (show (_ : Bool) = _; simp_all; done) | (exfalso; omega) | refine aRegion_auto (by decide +kernel) ?_ | fail))
      (apply exEff; focus (repeat' (first | exact ⟨rfl, rfl⟩ | exact trivial | refine And.intro ?_ ?_ | omega | exact Nat.le_refl _ | (show _ + 1 ≤ 4294967296; omega))))
      (repeat' (first | exact trivial | exact fun h => h | refine And.intro ?_ ?_ | (intro hb; first | (simp at hb; done) | (simp at hb) | skip) | omega | exact rfl | exact Nat.le_refl _ | (show _ + 1 ≤ 4294967296; omega) | (dsimp only; omega) | (show (_ : Int) ≤ (_ : Int); omega) | (show _ < List.length _; simp only [List.length_set, List.length_append, List.length_take]; omega) | (show wantB _ _ = true; simp; done) | (show wantB _ _ = true; simp; omega) | (show (_ : Bool) = _; simp_all; done) | (exfalso; omega) | refine aRegion_auto (by decide +kernel) ?_ | fail))
      refine ⟨_, _, (REnt.conv [.dat NetT, .keep] _ rfl ?_).trans (REnt.drop ⟨rfl, rfl⟩), ?_⟩
      · (repeat' (first | exact trivial | refine And.intro ?_ ?_ | (show _ ≤ _; omega) | (show _ ≤ _; simp; done)))
      exact hK
    · have e1 : strE a least = 0 := by unfold strE; rw [if_pos hv, if_neg hc]
      have hK := hK1 e1
      unfold strNet gaO at hK
      have eFl : fResP a.1.toNat a.2.1.toNat a = (lst (a.1.toNat * a.2.1.toNat) (flD a.1.toNat a.2.1.toNat (hts a)).fill, lst (a.1.toNat * a.2.1.toNat) (fun i => wayN a.1.toNat i ((flD a.1.toNat a.2.1.toNat (hts a)).to i)), natL (flD a.1.toNat a.2.1.toNat (hts a)).ord) := rfl
      rw [eFl] at hK ⊢
      generalize (flD a.1.toNat a.2.1.toNat (hts a)).to = to at *
      generalize (flD a.1.toNat a.2.1.toNat (hts a)).ord = ord at *
      generalize lst (a.1.toNat * a.2.1.toNat) (flD a.1.toNat a.2.1.toNat (hts a)).fill = fill at *
      obtain ⟨w, hw⟩ : ∃ w, w = a.1.toNat := ⟨_, rfl⟩
      obtain ⟨h, hh⟩ : ∃ h, h = a.2.1.toNat := ⟨_, rfl⟩
      obtain ⟨n, hn⟩ : ∃ n, n = w * h := ⟨_, rfl⟩
      rw [← hw, ← hh] at R F hln hwh hK ⊢
      rw [← hn] at hln hwh hK ⊢
      (repeat' (first | exact trivial | exact fun h => h | refine And.intro ?_ ?_ | (intro hb; first | (simp at hb; done) | (simp at hb) | skip) | omega | exact rfl | exact Nat.le_refl _ | (show _ + 1 ≤ 4294967296; omega) | (dsimp only; omega) | (show (_ : Int) ≤ (_ : Int); omega) | (show _ < List.length _; simp only [List.length_set, List.length_append, List.length_take]; omega) | (show wantB _ _ = true; simp; done) | (show wantB _ _ = true; simp; omega) | (show (_ : Bool) = _; simp_all; done) | (exfalso; omega) | fail))
      let bA : AO := .box [.fz int a.1, .fz int a.2.1, .fz (.list int) a.2.2]
      let bN : AO := .box [.nilSl, .nilSl, .nilSl, .nilSl, .nilSl]
      let bF : AO := .box [.fz (.list int) fill, .fz (.list int) (lst n (fun i => wayN w i (to i))), .fz (.list int) (natL ord)]
      let rm : AO := .room
      let Z1 : AO := .row .bool (List.replicate a.2.2.length false)
      let Z2 : AO := .row int (List.replicate a.2.2.length 0)
      let B1 : AO := .box [.fz (.list int) fill, .fz (.list int) (lst n (fun i => wayN w i (to i))), .fz (.list int) (natL ord), .ref 5 0 a.2.2.length, .ref 3 0 a.2.2.length]
      (repeat' (first | exact trivial | exact fun h => h | refine And.intro ?_ ?_ | (intro hb; first | (simp at hb; done) | (simp at hb) | skip) | omega | exact rfl | exact Nat.le_refl _ | (show _ + 1 ≤ 4294967296; omega) | (dsimp only; omega) | (show (_ : Int) ≤ (_ : Int); omega) | (show _ < List.length _; simp only [List.length_set, List.length_append, List.length_take]; omega) | (show wantB _ _ = true; simp; done) | (show wantB _ _ = true; simp; omega) | (show (_ : Bool) = _; simp_all; done) | (exfalso; omega) | fail))
      refine aRegion_open 2 (by decide +kernel) ?_
      (repeat' (first | exact trivial | exact fun h => h | refine And.intro ?_ ?_ | (intro hb; first | (simp at hb; done) | (simp at hb) | skip) | omega | exact rfl | exact Nat.le_refl _ | (show _ + 1 ≤ 4294967296; omega) | (dsimp only; omega) | (show (_ : Int) ≤ (_ : Int); omega) | (show _ < List.length _; simp only [List.length_set, List.length_append, List.length_take]; omega) | (show wantB _ _ = true; simp; done) | (show wantB _ _ = true; simp; omega) | (show (_ : Bool) = _; simp_all; done) | (exfalso; omega) | refine aRegion_auto (by decide +kernel) ?_ | fail))
      refine eff_is (.ref 5 0 a.2.2.length) [bA, bN, bF, rm, rm, Z1] ?_
      (repeat' (first | exact trivial | exact fun h => h | refine And.intro ?_ ?_ | (intro hb; first | (simp at hb; done) | (simp at hb) | skip) | omega | exact rfl | exact Nat.le_refl _ | (show _ + 1 ≤ 4294967296; omega) | (dsimp only; omega) | (show (_ : Int) ≤ (_ : Int); omega) | (show _ < List.length _; simp only [List.length_set, List.length_append, List.length_take]; omega) | (show wantB _ _ = true; simp; done) | (show wantB _ _ = true; simp; omega) | (show (_ : Bool) = _; simp_all; done) | (exfalso; omega) | refine aRegion_auto (by decide +kernel) ?_ | fail))
      refine eff_is (.ref 3 0 a.2.2.length) [bA, bN, bF, Z2, rm, Z1] ?_
      (repeat' (first | exact trivial | exact fun h => h | refine And.intro ?_ ?_ | (intro hb; first | (simp at hb; done) | (simp at hb) | skip) | omega | exact rfl | exact Nat.le_refl _ | (show _ + 1 ≤ 4294967296; omega) | (dsimp only; omega) | (show (_ : Int) ≤ (_ : Int); omega) | (show _ < List.length _; simp only [List.length_set, List.length_append, List.length_take]; omega) | (show wantB _ _ = true; simp; done) | (show wantB _ _ = true; simp; omega) | (show (_ : Bool) = _; simp_all; done) | (exfalso; omega) | refine aRegion_auto (by decide +kernel) ?_ | fail))
      refine eff_is (.ptr 4 0) [bA, bN, bF, Z2, bN, Z1] ?_
      (repeat' (first | exact trivial | exact fun h => h | refine And.intro ?_ ?_ | (intro hb; first | (simp at hb; done) | (simp at hb) | skip) | omega | exact rfl | exact Nat.le_refl _ | (show _ + 1 ≤ 4294967296; omega) | (dsimp only; omega) | (show (_ : Int) ≤ (_ : Int); omega) | (show _ < List.length _; simp only [List.length_set, List.length_append, List.length_take]; omega) | (show wantB _ _ = true; simp; done) | (show wantB _ _ = true; simp; omega) | (show (_ : Bool) = _; simp_all; done) | (exfalso; omega) | refine aRegion_auto (by decide +kernel) ?_ | fail))
      refine eff_is .unk [bA, bN, bF, Z2, B1, Z1] ?_
      refine ⟨[(0, [bA, bN, bF, rm, rm]), (16, [bA, bN, bF, rm, rm, Z1]), (256, [bA, bN, bF, Z2, rm]), (1024, [bA, bN, bF, rm, bN]), (272, [bA, bN, bF, Z2, rm, Z1]), (1040, [bA, bN, bF, rm, bN, Z1]), (1280, [bA, bN, bF, Z2, bN]), (1296, [bA, bN, bF, Z2, bN, Z1]), (3344, [bA, bN, bF, Z2, B1, Z1])], rfl, rfl, ?_, ?_⟩
      · (repeat' (first | refine And.intro ?_ ?_ | exact trivial | exact rfl | omega))
        all_goals first
          | (refine view_of [0, 1, 2, 3, 4, 5] rfl ?_ rfl rfl; (repeat' (first | exact trivial | exact rfl | refine And.intro ?_ ?_)); done)
          | (refine view_of [0, 1, 2, 5, 4] rfl ?_ rfl rfl; (repeat' (first | exact trivial | exact rfl | refine And.intro ?_ ?_)); done)
          | (refine view_of [0, 1, 2, 3, 5] rfl ?_ rfl rfl; (repeat' (first | exact trivial | exact rfl | refine And.intro ?_ ?_)); done)
          | (refine view_of [0, 1, 2, 6, 4, 5] rfl ?_ rfl rfl; (repeat' (first | exact trivial | exact rfl | refine And.intro ?_ ?_)); done)
          | (refine view_of [0, 1, 2, 3, 6, 5] rfl ?_ rfl rfl; (repeat' (first | exact trivial | exact rfl | refine And.intro ?_ ?_)); done)
      (repeat' (first | exact trivial | exact fun h => h | refine And.intro ?_ ?_ | (intro hb; first | (simp at hb; done) | (simp at hb) | skip) | omega | exact rfl | exact Nat.le_refl _ | (show _ + 1 ≤ 4294967296; omega) | (dsimp only; omega) | (show (_ : Int) ≤ (_ : Int); omega) | (show _ < List.length _; simp only [List.length_set, List.length_append, List.length_take]; omega) | (show wantB _ _ = true; simp; done) | (show wantB _ _ = true; simp; omega) | (show (_ : Bool) = _; simp_all; done) | (exfalso; omega) | refine aRegion_auto (by decide +kernel) ?_ | fail))
      have n0 : 0 < n := by rw [hn]; exact Nat.mul_pos R.w0 R.h0
      have hO := fun k => lst_len n (oneK k)
      refine ⟨Nat, fun k => ⟨[(1, .fz int least), (2, .ptr 0 0), (4, .ptr 1 0), (6, .ptr 2 0), (8, .ptr 4 0), (9, .ref 6 0 n), (43, .fz int n), (44, .fz int k)], [bA, bN, bF, .row int (lst n (fun _ => 0)), .box [.fz (.list int) fill, .fz (.list int) (lst n (fun i => wayN w i (to i))), .fz (.list int) (natL ord), .ref 5 0 n, .ref 3 0 n], .row .bool (lsb n (fun _ => false)), .row int (lst n (oneK k))]⟩, fun k => k ≤ n, fun k => n - k, 0, Nat.zero_le _, Ent.sub ?_ ?_, ?_⟩
      · show [bA, bN, bF, .row int (List.replicate a.2.2.length 0), .box [_, _, _, .ref 5 0 a.2.2.length, .ref 3 0 a.2.2.length], .row .bool (List.replicate a.2.2.length false), .row int (List.replicate a.2.2.length 0)] = _
        rw [hln, lst_zero, lsb_zero]
        rfl
      · rw [hln]; (repeat' (first | exact trivial | exact rfl | refine And.intro ?_ ?_))
      intro k hk
      have hOk := hO k
      by_cases hkn : k < n
      · (repeat' (first | exact trivial | exact fun h => h | refine And.intro ?_ ?_ | (intro hb; first | (simp at hb; done) | (simp at hb) | skip) | omega | exact rfl | exact Nat.le_refl _ | (show _ + 1 ≤ 4294967296; omega) | (dsimp only; omega) | (show (_ : Int) ≤ (_ : Int); omega) | (show _ < List.length _; simp only [List.length_set, List.length_append, List.length_take]; omega) | (show wantB _ _ = true; simp; done) | (show wantB _ _ = true; simp; omega) | (show (_ : Bool) = _; simp_all; done) | (exfalso; omega) | refine aRegion_auto (by decide +kernel) ?_ | fail))
        refine ⟨k + 1, by show k + 1 ≤ n; omega, by show n - (k + 1) < n - k; omega, Ent.sub ?_ ?_⟩
        · (repeat' (first | exact rfl | refine cons_eq ?_ ?_))
          refine row_set1 (k := k) (f := oneK k) (g := oneK (k + 1)) 1 rfl fun i hi => ?_
          unfold oneK
          by_cases e : i = k
          · rw [if_pos e, if_pos (by omega)]
          · rw [if_neg e]
            by_cases e2 : i < k
            · rw [if_pos e2, if_pos (by omega)]
            · rw [if_neg e2, if_neg (by omega)]
        · (repeat' (first | exact trivial | exact rfl | refine And.intro ?_ ?_))
      · have hke : k = n := by omega
        subst hke
        have eO : lst k (oneK k) = lst k (fun _ => 1) := lst_congr fun i hi => by unfold oneK; rw [if_pos hi]
        (repeat' (first | exact trivial | exact fun h => h | refine And.intro ?_ ?_ | (intro hb; first | (simp at hb; done) | (simp at hb) | skip) | omega | exact rfl | exact Nat.le_refl _ | (show _ + 1 ≤ 4294967296; omega) | (dsimp only; omega) | (show (_ : Int) ≤ (_ : Int); omega) | (show _ < List.length _; simp only [List.length_set, List.length_append, List.length_take]; omega) | (show wantB _ _ = true; simp; done) | (show wantB _ _ = true; simp; omega) | (show (_ : Bool) = _; simp_all; done) | (exfalso; omega) | fail))
        refine acall_conv [.dat RasT, .dat FT, .dat (.list int)] _ _ _ rfl ?_ (acall_frame0 rfl (acall_arg (gather_any _ a R F fill (fun _ => 1) (fun m j hm hj => F.ga_bd R.wh (rain := fun _ => 1) (fun u hu => by omega) m j hm hj) _ ?_) (by rw [List.drop_zero, List.take_of_length_le (by omega), eO, ← hn])))
        · (repeat' (first | exact trivial | refine And.intro ?_ ?_ | (show _ ≤ _; omega) | (show _ ≤ _; simp; done)))
        rw [← hn]
        have hbd := fun j (hj : j < k) => F.ga_bd R.wh (rain := fun _ => 1) (fun u hu => by omega) k j (by omega) (by omega)
        generalize hga : gaN to ord (fun _ => 1) k = ga at *
        (repeat' (first | exact trivial | exact fun h => h | refine And.intro ?_ ?_ | (intro hb; first | (simp at hb; done) | (simp at hb) | skip) | omega | exact rfl | exact Nat.le_refl _ | (show _ + 1 ≤ 4294967296; omega) | (dsimp only; omega) | (show (_ : Int) ≤ (_ : Int); omega) | (show _ < List.length _; simp only [List.length_set, List.length_append, List.length_take]; omega) | (show wantB _ _ = true; simp; done) | (show wantB _ _ = true; simp; omega) | (show (_ : Bool) = _; simp_all; done) | (exfalso; omega) | fail))
        obtain ⟨on, hon⟩ : ∃ on, on = onN ga least := ⟨_, rfl⟩
        have hG := lst_len k ga
        have hS := fun i => lsb_len k (sN on i)
        have hI := fun i => lst_len k (inN to on i)
        have hL := lst_len k (fun i => wayN w i (to i))
        refine ⟨Nat, fun i => ⟨[(1, .fz int least), (2, .ptr 0 0), (4, .ptr 1 0), (6, .ptr 2 0), (8, .ptr 4 0), (54, .ref 7 0 k), (55, .fz int k), (56, .fz int i)], [bA, bN, bF, .row int (lst k (inN to on i)), .box [.fz (.list int) fill, .fz (.list int) (lst k (fun i => wayN w i (to i))), .fz (.list int) (natL ord), .ref 5 0 k, .ref 3 0 k], .row .bool (lsb k (sN on i)), .dead, .row int (lst k ga)]⟩, fun i => i ≤ k, fun i => k - i, 0, Nat.zero_le _, Ent.sub ?_ ?_, ?_⟩
        · (repeat' (first | exact rfl | refine cons_eq ?_ ?_))
        · (repeat' (first | exact trivial | exact rfl | refine And.intro ?_ ?_))
        intro i hi
        have hSi := hS i
        have hIi := hI i
        by_cases hik : i < k
        · have q1 : List.getD (lst k ga) (0 + Int.toNat (i : Int)) int.dft = ga i := by rw [Nat.zero_add, Int.toNat_natCast]; exact lst_at _ hik
          have eS : List.set (lsb k (sN on i)) (0 + Int.toNat (i : Int)) (decide (least ≤ ga i)) = lsb k (sN on (i + 1)) := by
            rw [Nat.zero_add, Int.toNat_natCast, lsb_set]
            refine lsb_congr fun j hj => ?_
            unfold sN
            by_cases e : j = i
            · rw [if_pos e, if_pos (by omega), e, hon]; rfl
            · rw [if_neg e]
              by_cases e2 : j < i
              · rw [if_pos e2, if_pos (by omega)]
              · rw [if_neg e2, if_neg (by omega)]
          have q2 : List.getD (lsb k (sN on (i + 1))) (0 + Int.toNat (i : Int)) Ty.bool.dft = on i := by
            rw [Nat.zero_add, Int.toNat_natCast]
            refine (lsb_at _ hik).trans ?_
            unfold sN
            rw [if_pos (by omega)]
          have g2 : List.getD (lst k (fun i => wayN w i (to i))) (Int.toNat (i : Int)) int.dft = wayN w i (to i) := lst_at _ hik
          (repeat' (first | exact trivial | exact fun h => h | refine And.intro ?_ ?_ | (intro hb; first | (simp at hb; done) | (simp at hb) | skip) | omega | exact rfl | exact Nat.le_refl _ | (show _ + 1 ≤ 4294967296; omega) | (dsimp only; omega) | (show (_ : Int) ≤ (_ : Int); omega) | (show _ < List.length _; simp only [List.length_set, List.length_append, List.length_take]; omega) | (show wantB _ _ = true; simp; done) | (show wantB _ _ = true; simp; omega) | (show (_ : Bool) = _; simp_all; done) | (exfalso; omega) | refine aRegion_auto (by decide +kernel) ?_ | fail))
          refine ⟨[(1, .fz int least), (2, .ptr 0 0), (4, .ptr 1 0), (6, .ptr 2 0), (8, .ptr 4 0), (11, .fz int i), (54, .ref 7 0 k), (55, .fz int k), (56, .fz int i)], [bA, bN, bF, .row int (lst k (inN to on i)), .box [.fz (.list int) fill, .fz (.list int) (lst k (fun i => wayN w i (to i))), .fz (.list int) (natL ord), .ref 5 0 k, .ref 3 0 k], .row .bool (lsb k (sN on (i + 1))), .dead, .row int (lst k ga)], Ent.sub ?_ ?_, ?_⟩
          · (repeat' (first | exact rfl | refine cons_eq ?_ ?_))
            rw [← eS, ← q1]
          · (repeat' (first | exact trivial | exact rfl | refine And.intro ?_ ?_))
          clear eS q1
          have hS1 := hS (i + 1)
          have q5 : (lsb k (sN on (i + 1)))[i]?.getD Ty.bool.dft = on i := by rw [← q2, Nat.zero_add, Int.toNat_natCast]; simp
          have g5 : (lst k (fun i => wayN w i (to i)))[i]?.getD int.dft = wayN w i (to i) := lst_get _ hik
          have q3 : ∀ j, j < k → List.getD (lst k (inN to on i)) (0 + Int.toNat ((j : Nat) : Int)) int.dft = inN to on i j := fun j hj => by rw [Nat.zero_add, Int.toNat_natCast]; exact lst_at _ hj
          have q4 : ∀ j, inN to on (i + 1) j = if (on i = true ∧ to i ≠ i) ∧ j = to i then inN to on i j + 1 else inN to on i j := fun j => rfl
          by_cases hoi : on i = true
          · by_cases hto : to i = i
            · have hw8 : wayN w i (to i) = 8 := by rw [hto, way_self]
              rw [hoi] at q2
              rw [hw8] at g2
              have eI : lst k (inN to on (i + 1)) = lst k (inN to on i) := lst_congr fun j hj => by rw [q4, if_neg (fun x => x.1.2 hto)]
              rw [hw8] at g5
              (repeat' (first | exact trivial | exact fun h => h | refine And.intro ?_ ?_ | (intro hb; first | (simp at hb; done) | (simp at hb) | skip) | omega | exact rfl | exact Nat.le_refl _ | (show _ + 1 ≤ 4294967296; omega) | (dsimp only; omega) | (show (_ : Int) ≤ (_ : Int); omega) | (show _ < List.length _; simp only [List.length_set, List.length_append, List.length_take]; omega) | (show wantB _ _ = true; simp; done) | (show wantB _ _ = true; simp; omega) | (show (_ : Bool) = _; simp_all; done) | (exfalso; omega) | refine aRegion_auto (by decide +kernel) ?_ | fail))
              refine ⟨i + 1, by show i + 1 ≤ k; omega, by show k - (i + 1) < k - i; omega, Ent.sub ?_ ?_⟩
              · rw [eI]
              · (repeat' (first | exact trivial | exact rfl | refine And.intro ?_ ?_))
            · obtain ⟨v, hv8, hwv, hnb⟩ := way_to (w := w) (h := h) (i := i) (t := to i) (by omega) (by have := F.lt i (by omega); omega) (touchN_symm (F.touch i (by omega) hto))
              rw [hoi] at q2
              have htn := F.lt i (by omega)
              have b1 := inN_bd (to := to) (on := on) i (to i)
              have q3' := q3 (to i) (by omega)
              rw [hwv] at g2 g5
              rw [hoi] at q5
              (repeat' (first | exact trivial | exact fun h => h | refine And.intro ?_ ?_ | (intro hb; first | (simp at hb; done) | (simp at hb) | skip) | omega | exact rfl | exact Nat.le_refl _ | (show _ + 1 ≤ 4294967296; omega) | (dsimp only; omega) | (show (_ : Int) ≤ (_ : Int); omega) | (show _ < List.length _; simp only [List.length_set, List.length_append, List.length_take]; omega) | (show wantB _ _ = true; simp; done) | (show wantB _ _ = true; simp; omega) | (show (_ : Bool) = _; simp_all; done) | (exfalso; omega) | refine aRegion_auto (by decide +kernel) ?_ | fail))
              · rw [g2]
                apply exEff
                · refine acall_conv [.dat RasT, .keep, .keep] _ _ _ rfl trivial (acall_frame0 rfl (neighbour_any _ a R i v (by omega) hv8 _ (fun u hu => ?_) (fun hnone => ?_)))
                  · rw [hnb] at hu; cases hu; exact ⟨rfl, rfl⟩
                  · rw [hnb] at hnone; cases hnone
                (repeat' (first | exact trivial | exact fun h => h | refine And.intro ?_ ?_ | (intro hb; first | (simp at hb; done) | (simp at hb) | skip) | omega | exact rfl | exact Nat.le_refl _ | (show _ + 1 ≤ 4294967296; omega) | (dsimp only; omega) | (show (_ : Int) ≤ (_ : Int); omega) | (show _ < List.length _; simp only [List.length_set, List.length_append, List.length_take]; omega) | (show wantB _ _ = true; simp; done) | (show wantB _ _ = true; simp; omega) | (show (_ : Bool) = _; simp_all; done) | (exfalso; omega) | refine aRegion_auto (by decide +kernel) ?_ | fail))
                refine ⟨i + 1, by show i + 1 ≤ k; omega, by show k - (i + 1) < k - i; omega, Ent.sub ?_ ?_⟩
                · (repeat' (first | exact rfl | refine cons_eq ?_ ?_))
                  refine row_set1 (k := to i) (f := inN to on i) (g := inN to on (i + 1)) (inN to on i (to i) + 1) ?_ fun j hj => ?_
                  · show List.getD (lst k (inN to on i)) (0 + Int.toNat ((to i : Nat) : Int)) int.dft + 1 = _
                    rw [q3']
                  · rw [q4]
                    by_cases e : j = to i
                    · rw [if_pos e, if_pos ⟨⟨hoi, hto⟩, e⟩, e]
                    · rw [if_neg e, if_neg (fun x => e x.2)]
                · (repeat' (first | exact trivial | exact rfl | refine And.intro ?_ ?_))
              · exfalso
                have := hb q5
                omega
          · have hoi' : on i = false := by simpa using hoi
            rw [hoi'] at q2
            have eI : lst k (inN to on (i + 1)) = lst k (inN to on i) := lst_congr fun j hj => by rw [q4, if_neg (fun x => hoi x.1.1)]
            rw [hoi'] at q5
            (repeat' (first | exact trivial | exact fun h => h | refine And.intro ?_ ?_ | (intro hb; first | (simp at hb; done) | (simp at hb) | skip) | omega | exact rfl | exact Nat.le_refl _ | (show _ + 1 ≤ 4294967296; omega) | (dsimp only; omega) | (show (_ : Int) ≤ (_ : Int); omega) | (show _ < List.length _; simp only [List.length_set, List.length_append, List.length_take]; omega) | (show wantB _ _ = true; simp; done) | (show wantB _ _ = true; simp; omega) | (show (_ : Bool) = _; simp_all; done) | (exfalso; omega) | refine aRegion_auto (by decide +kernel) ?_ | fail))
            · have := q5.symm.trans hb.1
              cases this
            · (repeat' (first | exact trivial | exact fun h => h | refine And.intro ?_ ?_ | (intro hb; first | (simp at hb; done) | (simp at hb) | skip) | omega | exact rfl | exact Nat.le_refl _ | (show _ + 1 ≤ 4294967296; omega) | (dsimp only; omega) | (show (_ : Int) ≤ (_ : Int); omega) | (show _ < List.length _; simp only [List.length_set, List.length_append, List.length_take]; omega) | (show wantB _ _ = true; simp; done) | (show wantB _ _ = true; simp; omega) | (show (_ : Bool) = _; simp_all; done) | (exfalso; omega) | refine aRegion_auto (by decide +kernel) ?_ | fail))
              refine ⟨i + 1, by show i + 1 ≤ k; omega, by show k - (i + 1) < k - i; omega, Ent.sub ?_ ?_⟩
              · rw [eI]
              · (repeat' (first | exact trivial | exact rfl | refine And.intro ?_ ?_))
        · have hike : i = k := by omega
          have eS : lsb k (sN on i) = lsb k on := lsb_congr fun j hj => by unfold sN; rw [if_pos (by omega)]
          rw [← hon] at hK
          rw [hike] at eS hIi
          subst hike
          (repeat' (first | exact trivial | exact fun h => h | refine And.intro ?_ ?_ | (intro hb; first | (simp at hb; done) | (simp at hb) | skip) | omega | exact rfl | exact Nat.le_refl _ | (show _ + 1 ≤ 4294967296; omega) | (dsimp only; omega) | (show (_ : Int) ≤ (_ : Int); omega) | (show _ < List.length _; simp only [List.length_set, List.length_append, List.length_take]; omega) | (show wantB _ _ = true; simp; done) | (show wantB _ _ = true; simp; omega) | (show (_ : Bool) = _; simp_all; done) | (exfalso; omega) | refine aRegion_auto (by decide +kernel) ?_ | fail))
          refine ⟨_, _, (REnt.conv [.dat NetT, .keep] _ rfl ?_).trans (REnt.drop ⟨rfl, rfl⟩), ?_⟩
          · (repeat' (first | exact trivial | refine And.intro ?_ ?_ | (show _ ≤ _; omega) | (show _ ≤ _; simp; done)))
            all_goals trace_state
          · refine (congrArg (fun l => K (.tup [.fz NetT l, .fz .raw .nilIface]) []) ?_).mp hK
            rw [eS, List.drop_zero, List.drop_zero, List.take_of_length_le (by rw [lsb_len]; exact Nat.le_refl _), List.take_of_length_le (by rw [lst_len]; exact Nat.le_refl _)]
  · have h4 := rerr_in a
    have e1 : strE a least = rerr a := by unfold strE; rw [if_neg hv]
    rw [e1] at hK0
    have hK := hK0 hv
    refine acall_mk (E := envAt (G8 E) 101 0) (envOk _ _ _) Tryd.func46 rfl rfl rfl rfl rfl ?_
    (repeat' (first | exact trivial | exact fun h => h | refine And.intro ?_ ?_ | (intro hb; first | (simp at hb; done) | (simp at hb) | skip) | omega | exact rfl | exact Nat.le_refl _ | (show _ + 1 ≤ 4294967296; omega) | (dsimp only; omega) | (show (_ : Int) ≤ (_ : Int); omega) | (show _ < List.length _; simp only [List.length_set, List.length_append, List.length_take]; omega) | (show wantB _ _ = true; simp; done) | (show wantB _ _ = true; simp; omega) | (show (_ : Bool) = _; simp_all; done) | (exfalso; omega) | fail))
    refine acall_conv [.dat RasT] _ _ _ rfl trivial (acall_frame0 rfl (flood_one E a hl _ ?_))
    obtain h | h | h | h : rerr a = 1 ∨ rerr a = 2 ∨ rerr a = 3 ∨ rerr a = 4 := by omega
    all_goals
      rw [h] at hK ⊢
      (repeat' (first | exact trivial | exact fun h => h | refine And.intro ?_ ?_ | (intro hb; first | (simp at hb; done) | (simp at hb) | skip) | omega | exact rfl | exact Nat.le_refl _ | (show _ + 1 ≤ 4294967296; omega) | (dsimp only; omega) | (show (_ : Int) ≤ (_ : Int); omega) | (show _ < List.length _; simp only [List.length_set, List.length_append, List.length_take]; omega) | (show wantB _ _ = true; simp; done) | (show wantB _ _ = true; simp; omega) | (show (_ : Bool) = _; simp_all; done) | (exfalso; omega) | refine aRegion_auto (by decide +kernel) ?_ | fail))
      refine ⟨_, _, (REnt.conv [.dat NetT, .keep] _ rfl ?_).trans (REnt.drop ⟨rfl, rfl⟩), ?_⟩
      · (repeat' (first | exact trivial | refine And.intro ?_ ?_ | (show _ ≤ _; omega) | (show _ ≤ _; simp; done)))
      exact hK
/-- the program's net, in one piece -/
def strQ (a : Ras) (least : Int) : NetT.den := if strE a least = 0 then strNet a least else NetT.dft
theorem streams_two (E : Errs) (a : Ras) (least : Int) (hl : a.2.2.length ≤ 1000000000000) (K : AV → List AO → Prop) (hK : K (.tup [.fz NetT (strQ a least), .fz .raw (er E (strE a least))]) []) :
    ACall Tryd.prog (G8 E) 46 [.fz RasT a, .fz int least] [] K := by
  refine streams_one E a least hl K (fun hne => ?_) (fun h0 => ?_)
  · unfold strQ at hK
    rw [if_neg hne] at hK
    exact hK
  · unfold strQ at hK
    rw [if_pos h0, h0] at hK
    exact hK
end Go.Proofs.YtepkknjncpbahaaDoor
/-
  Water always gets out: what the flood is worth, and that all rain comes to the rim. Plain.
-/
namespace Go.Proofs.YtepkknjncpbahaaDoor
open Go Go.Ab
/-- no cell beside one that is taken waits higher than that one and its own ground -/
def Near (w h : Nat) (L : Nat → Int) (S : Fl) : Prop := ∀ j k, j < w * h → k < w * h → S.st j = 2 → touchN w j k → S.st k ≠ 0 ∧ S.fill k ≤ max (L k) (S.fill j)
theorem Near.step {w h : Nat} {L : Nat → Int} {S : Fl} (I : FlI w h L S) (N : Near w h L S) {b : Nat} (hb : isBest S (w * h) b) : Near w h L (flS w L S b) := by
  obtain ⟨b1, b2, b3⟩ := hb
  have s : ∀ i, (flS w L S b).st i = if i = b then 2 else if touchN w b i ∧ S.st i = 0 then 1 else S.st i := fun i => rfl
  have f : ∀ i, (flS w L S b).fill i = if touchN w b i ∧ S.st i = 0 then max (L i) (S.fill b) else S.fill i := fun i => rfl
  have fk : ∀ i, S.st i ≠ 0 → (flS w L S b).fill i = S.fill i := fun i hi => by rw [f, if_neg (by omega)]
  have sk : ∀ i, S.st i ≠ 0 → (flS w L S b).st i ≠ 0 := fun i hi => by
    rw [s]
    split
    · omega
    · rw [if_neg (by omega)]; exact hi
  intro j k hj hk h2 ht
  by_cases e : j = b
  · subst e
    rw [fk j (by omega)]
    by_cases h0 : S.st k = 0
    · refine ⟨?_, ?_⟩
      · rw [s, if_neg (fun e => ht.1 e.symm), if_pos ⟨ht, h0⟩]; omega
      · rw [f, if_pos ⟨ht, h0⟩]; exact Int.le_refl _
    · refine ⟨sk k h0, ?_⟩
      rw [fk k h0]
      have hle := I.le2 k
      by_cases hk2 : S.st k = 2
      · have := I.mono k j hk hj hk2 b2
        omega
      · rcases I.src k hk h0 with ⟨_, _, h3⟩ | ⟨_, _, h3, h4, h5⟩
        · omega
        · have := I.mono _ j h3 hj h4 b2
          omega
  · have hj2 : S.st j = 2 := by
      rw [s, if_neg e] at h2
      split at h2
      · omega
      · exact h2
    obtain ⟨n1, n2⟩ := N j k hj hk hj2 ht
    exact ⟨sk k n1, by rw [fk k n1, fk j (by omega)]; exact n2⟩
theorem flN_near (w h : Nat) (L : Nat → Int) (hw : 0 < w) : ∀ k, k ≤ w * h → Near w h L (flN w h L k)
  | 0, _ => fun j k _ _ h2 _ => by
    have h2 : (fl0 w h L).st j = 2 := h2
    have s : (fl0 w h L).st j = if rimN w h j then 1 else 0 := rfl
    rw [s] at h2
    split at h2 <;> omega
  | k + 1, hk => by
    obtain ⟨b, _, h2, h3⟩ := flN_best w h L hw (k := k) (by omega)
    rw [h3]
    exact (flN_near w h L hw k (by omega)).step (flN_ok w h L hw k (by omega)).1 h2
/-- what the statement asks of the flood -/
structure GoodFill (w h : Nat) (L fill : Nat → Int) (to : Nat → Nat) : Prop where
  up : ∀ i, i < w * h → L i ≤ fill i
  down : ∀ i, i < w * h → fill (to i) ≤ fill i
  rim : ∀ i, i < w * h → rimN w h i → fill i = L i
  near : ∀ j k, j < w * h → k < w * h → touchN w j k → fill k ≤ max (L k) (fill j)
theorem goodFill (w h : Nat) (L : Nat → Int) (hw : 0 < w) : GoodFill w h L (flD w h L).fill (flD w h L).to := by
  obtain ⟨I, _⟩ := flN_ok w h L hw (w * h) (Nat.le_refl _)
  have hall := flD_all w h L hw
  have hsrc := fun i hi => I.src i hi (by have := hall i hi; unfold flD at this; omega)
  refine ⟨fun i hi => ?_, fun i hi => ?_, fun i hi hr => ?_, fun j k hj hk ht => ?_⟩
  · rcases hsrc i hi with ⟨_, _, h3⟩ | ⟨_, _, _, _, h5⟩
    · unfold flD; omega
    · unfold flD; omega
  · rcases hsrc i hi with ⟨_, h2, _⟩ | ⟨_, _, _, _, h5⟩
    · unfold flD; rw [h2]; exact Int.le_refl _
    · unfold flD; omega
  · rcases hsrc i hi with ⟨_, _, h3⟩ | ⟨h1, _⟩
    · exact h3
    · exact absurd hr h1
  · exact (flN_near w h L hw (w * h) (Nat.le_refl _) j k hj hk (hall j hj) ht).2
/-! ### all rain comes to the rim -/
section
variable {w h : Nat} {to : Nat → Nat} {ord : List Nat}
theorem FlowN.stop_ex (F : FlowN w h to ord) : ∀ d i, i < w * h → ord.idxOf i < d → ∃ t, stopN to i t
  | 0, i, _, h => by omega
  | d + 1, i, hi, h => by
    by_cases e : to i = i
    · exact ⟨0, fun s hs => absurd hs (Nat.not_lt_zero _), e⟩
    · have := F.pos i hi e
      obtain ⟨t, h1, h2⟩ := F.stop_ex d (to i) (F.lt i hi) (by omega)
      have key : ∀ s, itF to s (to i) = itF to (s + 1) i := fun s => by
        induction s with
        | zero => rfl
        | succ s ih => show to (itF to s (to i)) = to (itF to (s + 1) i); rw [ih]
      refine ⟨t + 1, fun s hs => ?_, by rw [← key]; exact h2⟩
      cases s with
      | zero => exact e
      | succ s => rw [← key]; exact h1 s (by omega)
theorem itF_fix {i t : Nat} (he : to (itF to t i) = itF to t i) : ∀ d, itF to (t + d) i = itF to t i
  | 0 => rfl
  | d + 1 => by
    show to (itF to (t + d) i) = _
    rw [itF_fix he d]; exact he
/-- the last cells at which what rains on a cell has been: one -/
theorem FlowN.mem_stop (F : FlowN w h to ord) {i j : Nat} (hi : i < w * h) {t : Nat} (ht : stopN to i t) : (memN to ord (w * h) i j = true ∧ to j = j) ↔ j = itF to t i := by
  constructor
  · rintro ⟨hm, he⟩
    obtain ⟨s, h1, h2⟩ := itF_mem ht.2 _ _ hm
    rw [← h2] at he ⊢
    by_cases e : s = t
    · rw [e]
    · exact absurd he (ht.1 s (by omega))
  · rintro rfl
    exact ⟨F.mem_it hi t fun s hs => ht.1 s hs, ht.2⟩
theorem sumN_swap (g : Nat → Nat → Int) : ∀ n m, sumN n (fun j => sumN m (fun i => g i j)) = sumN m (fun i => sumN n (fun j => g i j))
  | 0, m => by
    show (0 : Int) = sumN m (fun _ => 0)
    rw [sumN_zero]
  | n + 1, m => by
    show sumN n (fun j => sumN m (fun i => g i j)) + sumN m (fun i => g i n) = sumN m (fun i => sumN n (fun j => g i j) + g i n)
    rw [sumN_swap g n m, sumN_add]
def rimS (w h : Nat) (g : Nat → Int) (k : Nat) : Int := sumN k (fun j => if rimN w h j then g j else 0)
theorem FlowN.rain_rim (F : FlowN w h to ord) (rain : Nat → Int) : rimS w h (gaN to ord rain (w * h)) (w * h) = sumN (w * h) rain := by
  unfold rimS
  have e1 : sumN (w * h) (fun j => if rimN w h j then gaN to ord rain (w * h) j else 0) = sumN (w * h) (fun j => sumN (w * h) (fun i => if rimN w h j ∧ memN to ord (w * h) i j = true then rain i else 0)) := sumN_congr _ fun j hj => by
    by_cases hr : rimN w h j
    · rw [if_pos hr, F.ga_sum rain (w * h) (Nat.le_refl _) j hj]
      refine sumN_congr _ fun i hi => ?_
      by_cases hm : memN to ord (w * h) i j = true
      · rw [if_pos hm, if_pos ⟨hr, hm⟩]
      · rw [if_neg hm, if_neg (fun h => hm h.2)]
    · rw [if_neg hr, sumN_congr (g := fun _ => 0) _ fun i hi => by rw [if_neg (fun h => hr h.1)], sumN_zero]
  rw [e1, sumN_swap]
  refine sumN_congr _ fun i hi => ?_
  obtain ⟨t, ht⟩ := F.stop_ex (ord.idxOf i + 1) i hi (by omega)
  have hlt := F.it_lt hi t
  have e2 := sumN_one (fun _ => rain i) (itF to t i) (w * h) hlt
  refine (sumN_congr _ fun j hj => ?_).trans e2
  have hiff : (rimN w h j ∧ memN to ord (w * h) i j = true) ↔ j = itF to t i := by
    rw [← F.mem_stop hi ht, F.rim j hj]
    exact And.comm
  by_cases e : j = itF to t i
  · rw [if_pos (hiff.2 e), if_pos (by simp [e])]
  · rw [if_neg (fun h => e (hiff.1 h)), if_neg (by simp [e])]
end
end Go.Proofs.YtepkknjncpbahaaDoor
