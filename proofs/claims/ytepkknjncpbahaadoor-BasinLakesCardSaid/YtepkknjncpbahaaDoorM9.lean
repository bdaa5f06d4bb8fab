/-
  Sorting numbers: the partition around a pivot.
-/
import Derived.Test.YtepkknjncpbahaaDoorM8
namespace Pdq
variable {α : Type}
section
variable {lt : α → α → Bool} {d : α} {a b : Nat} {xs ys : List α}
/-- a partition under way: what is less up to i, what is not from j on -/
def PtI (lt : α → α → Bool) (d : α) (a b i j : Nat) (xs : List α) : Prop := a + 1 ≤ i ∧ i ≤ j ∧ j ≤ b ∧ (∀ k, a + 1 ≤ k → k < i → lt (xs.getD k d) (xs.getD a d) = true) ∧ (∀ k, j ≤ k → k < b → lt (xs.getD k d) (xs.getD a d) = false)
theorem pt_start (h : a < b) : PtI lt d a b (a + 1) b xs := ⟨Nat.le_refl _, h, Nat.le_refl _, fun k h1 h2 => by omega, fun k h1 h2 => by omega⟩
theorem pt_up {i j : Nat} (h : PtI lt d a b i j xs) (hij : i < j) (hl : lt (xs.getD i d) (xs.getD a d) = true) : PtI lt d a b (i + 1) j xs := by
  obtain ⟨h1, h2, h3, h4, h5⟩ := h
  refine ⟨by omega, hij, h3, fun k k1 k2 => ?_, h5⟩
  by_cases e : k = i
  · rw [e]; exact hl
  · exact h4 k k1 (by omega)
theorem pt_dn {i j : Nat} (h : PtI lt d a b i j xs) (hij : i < j) (hl : lt (xs.getD (j - 1) d) (xs.getD a d) = false) : PtI lt d a b i (j - 1) xs := by
  obtain ⟨h1, h2, h3, h4, h5⟩ := h
  refine ⟨h1, by omega, by omega, h4, fun k k1 k2 => ?_⟩
  by_cases e : k = j - 1
  · rw [e]; exact hl
  · exact h5 k (by omega) k2
theorem pt_sw {i j : Nat} (h : PtI lt d a b i j xs) (hb : b ≤ xs.length) (hij : i < j) (hl1 : lt (xs.getD i d) (xs.getD a d) = false) (hl2 : lt (xs.getD (j - 1) d) (xs.getD a d) = true) : i + 1 ≤ j - 1 ∧ PtI lt d a b (i + 1) (j - 1) (sw d xs i (j - 1)) := by
  obtain ⟨h1, h2, h3, h4, h5⟩ := h
  have hne : i ≠ j - 1 := fun e => by rw [← e, hl1] at hl2; cases hl2
  have g := sw_get d xs (i := i) (j := j - 1) (by omega) (by omega)
  refine ⟨by omega, by omega, by omega, by omega, fun k k1 k2 => ?_, fun k k1 k2 => ?_⟩
  · rw [g k, g a, if_neg (by omega : ¬ a = j - 1), if_neg (by omega : ¬ a = i)]
    by_cases e : k = i
    · rw [if_neg (by omega), if_pos e]; exact hl2
    · rw [if_neg (by omega), if_neg e]; exact h4 k k1 (by omega)
  · rw [g k, g a, if_neg (by omega : ¬ a = j - 1), if_neg (by omega : ¬ a = i)]
    by_cases e : k = j - 1
    · rw [if_pos e]; exact hl1
    · rw [if_neg e, if_neg (by omega)]; exact h5 k (by omega) k2
theorem pt_end {j : Nat} (h : PtI lt d a b j j xs) (hb : b ≤ xs.length) : Par lt d a b (j - 1) (sw d xs (j - 1) a) := by
  obtain ⟨h1, h2, h3, h4, h5⟩ := h
  have hab : a < xs.length := by omega
  have g := sw_get d xs (i := j - 1) (j := a) (by omega) hab
  have gm : (sw d xs (j - 1) a).getD (j - 1) d = xs.getD a d := by
    rw [g (j - 1)]
    split
    · rename_i e; rw [e]
    · rw [if_pos rfl]
  refine ⟨by omega, by omega, fun k k1 k2 => ?_, fun k k1 k2 => ?_⟩
  · rw [gm, g k]
    by_cases e : k = a
    · rw [if_pos e]; exact h4 (j - 1) (by omega) (by omega)
    · rw [if_neg e, if_neg (by omega)]; exact h4 k (by omega) (by omega)
  · rw [gm, g k, if_neg (by omega), if_neg (by omega)]
    exact h5 k (by omega) k2
end
end Pdq
namespace Go.Proofs.YtepkknjncpbahaaDoor
open Go Go.Ab
set_option maxRecDepth 100000
theorem REnt.of_eq {n0 : Nat} {r r' : AV} {A A' : List AO} (e : r = r') (e2 : A = A') : REnt n0 r A r' A' := e ▸ e2 ▸ REnt.refl n0 r A
set_option maxHeartbeats 8000000 in
theorem partition_any (G : List (Nat × Value)) (xs : List Int) (n a b p : Nat) (hn : xs.length = n) (hs : n ≤ 1000000000) (hab : a ≤ p) (hpb : p < b) (hbn : b ≤ n) (K : AV → List AO → Prop) (hK : ∀ ys (m : Nat) (q : Bool), Pdq.SP 0 a b xs ys → Pdq.Par ltI 0 a b m ys → K (.tup [.fz int m, .fz .bool q]) [.row int ys]) :
    ACall Tryd.prog G 86 [.ref 0 0 n, .fz int a, .fz int b, .fz int p] [.row int xs] K := by
  refine acall_mk (E := envAt G 168 1) (envOk _ _ _) Tryd.func86 rfl rfl rfl rfl rfl ?_
  (repeat' (first | exact trivial | exact fun h => h | refine And.intro ?_ ?_ | (intro hb; first | (simp at hb; done) | (simp at hb) | skip) | omega | exact rfl | exact Nat.le_refl _ | (show _ + 1 ≤ 4294967296; omega) | (dsimp only; omega) | (show (_ : Int) ≤ (_ : Int); omega) | (show _ < List.length _; simp only [List.length_set, List.length_append, List.length_take]; omega) | (show wantB _ _ = true; simp; done) | (show wantB _ _ = true; simp; omega) | (show (_ : Bool) = _; simp_all; done) | (exfalso; omega) | refine aRegion_auto (by decide +kernel) ?_ | fail))
  (apply exEff; focus (repeat' (first | exact ⟨rfl, rfl⟩ | exact trivial | refine And.intro ?_ ?_ | omega | exact Nat.le_refl _ | (show _ + 1 ≤ 4294967296; omega))))
  (repeat' (first | exact trivial | exact fun h => h | refine And.intro ?_ ?_ | (intro hb; first | (simp at hb; done) | (simp at hb) | skip) | omega | exact rfl | exact Nat.le_refl _ | (show _ + 1 ≤ 4294967296; omega) | (dsimp only; omega) | (show (_ : Int) ≤ (_ : Int); omega) | (show _ < List.length _; simp only [List.length_set, List.length_append, List.length_take]; omega) | (show wantB _ _ = true; simp; done) | (show wantB _ _ = true; simp; omega) | (show (_ : Bool) = _; simp_all; done) | (exfalso; omega) | refine aRegion_auto (by decide +kernel) ?_ | fail))
  (apply exEff; focus (repeat' (first | exact ⟨rfl, rfl⟩ | exact trivial | refine And.intro ?_ ?_ | omega | exact Nat.le_refl _ | (show _ + 1 ≤ 4294967296; omega))))
  (repeat' (first | exact trivial | exact fun h => h | refine And.intro ?_ ?_ | (intro hb; first | (simp at hb; done) | (simp at hb) | skip) | omega | exact rfl | exact Nat.le_refl _ | (show _ + 1 ≤ 4294967296; omega) | (dsimp only; omega) | (show (_ : Int) ≤ (_ : Int); omega) | (show _ < List.length _; simp only [List.length_set, List.length_append, List.length_take]; omega) | (show wantB _ _ = true; simp; done) | (show wantB _ _ = true; simp; omega) | (show (_ : Bool) = _; simp_all; done) | (exfalso; omega) | refine aRegion_auto (by decide +kernel) ?_ | fail))
  obtain ⟨zs, ezs⟩ : ∃ zs, zs = Pdq.sw 0 xs a p := ⟨_, rfl⟩
  have hsp : Pdq.SP 0 a b xs zs := by rw [ezs]; exact .step (.refl _) ⟨by omega, by omega⟩ ⟨by omega, by omega⟩ (by omega)
  have hlz := hsp.len
  have eA : List.set (List.set xs (0 + Int.toNat (a : Int)) (List.getD xs (0 + Int.toNat (p : Int)) int.dft)) (0 + Int.toNat (p : Int)) (List.getD xs (0 + Int.toNat (a : Int)) int.dft) = zs := ezs ▸ set_sw (by omega) (by omega) (get_at (by omega)) (get_at (by omega))
  refine ⟨Nat, fun i => ⟨[(0, .ref 0 0 n), (1, .fz int a), (2, .fz int b), (8, .fz int 0), (9, .fz .bool false), (10, .fz int i), (11, .fz int ((b : Int) - 1))], [.row int zs]⟩, fun i => Pdq.PtI ltI 0 a b i b zs, fun i => n - i, (a + 1), Pdq.pt_start (by omega), Ent.sub (congrArg (fun l => [AO.row int l]) eA) ?_, ?_⟩
  · (repeat' (first | exact trivial | exact rfl | refine And.intro ?_ ?_))
  intro i hp
  have hp : Pdq.PtI ltI 0 a b i b zs := hp
  have p1 := hp.1
  have p2 := hp.2.1
  have p3 := hp.2.2.1
  show awp _ _ _ ⟨[(0, .ref 0 0 n), (1, .fz int a), (2, .fz int b), (8, .fz int 0), (9, .fz .bool false), (10, .fz int i), (11, .fz int ((b : Int) - 1))], [.row int zs]⟩
  apply merge
  · intro hc
    by_cases hij : i < b
    · have q1 : 0 + Int.toNat (i : Int) = i := by omega
      have q2 : 0 + Int.toNat (a : Int) = a := by omega
      (repeat' (first | exact trivial | exact fun h => h | refine And.intro ?_ ?_ | (intro hb; first | (simp at hb; done) | (simp at hb) | skip) | omega | exact rfl | exact Nat.le_refl _ | (show _ + 1 ≤ 4294967296; omega) | (dsimp only; omega) | (show (_ : Int) ≤ (_ : Int); omega) | (show _ < List.length _; simp only [List.length_set, List.length_append, List.length_take]; omega) | (show wantB _ _ = true; simp; done) | (show wantB _ _ = true; simp; omega) | (show (_ : Bool) = _; simp_all; done) | (exfalso; omega) | refine aRegion_auto (by decide +kernel) ?_ | fail))
      apply exEff
      · refine ⟨fun _ => ?_, fun h => absurd h (by simp; omega)⟩
        (repeat' (first | refine And.intro ?_ ?_ | (show wantB _ _ = true; simp; omega)))
        refine acall_frame0 rfl (less_int _ _ _ _ ?_)
        exact ⟨rfl, rfl⟩
      (repeat' (first | exact trivial | exact fun h => h | refine And.intro ?_ ?_ | (intro hb; first | (simp at hb; done) | (simp at hb) | skip) | omega | exact rfl | exact Nat.le_refl _ | (show _ + 1 ≤ 4294967296; omega) | (dsimp only; omega) | (show (_ : Int) ≤ (_ : Int); omega) | (show _ < List.length _; simp only [List.length_set, List.length_append, List.length_take]; omega) | (show wantB _ _ = true; simp; done) | (show wantB _ _ = true; simp; omega) | (show (_ : Bool) = _; simp_all; done) | (exfalso; omega) | refine aRegion_auto (by decide +kernel) ?_ | fail))
      · have hlt : ltI (zs.getD i 0) (zs.getD a 0) = true := by rw [← get_q, ← get_q]; exact hb.2
        refine ⟨i + 1, Pdq.pt_up hp hij hlt, by show n - (i + 1) < n - i; omega, Ent.sub rfl ?_⟩
        (repeat' (first | exact trivial | exact rfl | refine And.intro ?_ ?_))
      · have hge : i = b ∨ ltI (zs.getD i 0) (zs.getD a 0) = false := by
          have := hb (by omega)
          rw [get_q, get_q] at this
          exact .inr this
        refine ⟨Nat, fun j => ⟨[(0, .ref 0 0 n), (1, .fz int a), (2, .fz int b), (8, .fz int 0), (9, .fz .bool false), (10, .fz int i), (11, .fz int ((j : Int) - 1))], [.row int zs]⟩, fun j => Pdq.PtI ltI 0 a b i j zs ∧ (i = b ∨ ltI (zs.getD i 0) (zs.getD a 0) = false) ∧ j ≤ b, fun j => j, b, ⟨hp, hge, Nat.le_refl _⟩, Ent.sub rfl ?_, hc.out⟩
        (repeat' (first | exact trivial | exact rfl | refine And.intro ?_ ?_))
    · have hge : i = b ∨ ltI (zs.getD i 0) (zs.getD a 0) = false := .inl (by omega)
      (repeat' (first | exact trivial | exact fun h => h | refine And.intro ?_ ?_ | (intro hb; first | (simp at hb; done) | (simp at hb) | skip) | omega | exact rfl | exact Nat.le_refl _ | (show _ + 1 ≤ 4294967296; omega) | (dsimp only; omega) | (show (_ : Int) ≤ (_ : Int); omega) | (show _ < List.length _; simp only [List.length_set, List.length_append, List.length_take]; omega) | (show wantB _ _ = true; simp; done) | (show wantB _ _ = true; simp; omega) | (show (_ : Bool) = _; simp_all; done) | (exfalso; omega) | refine aRegion_auto (by decide +kernel) ?_ | fail))
      apply exEff
      · refine ⟨fun h => absurd h (by simp; omega), fun _ => ⟨rfl, rfl⟩⟩
      (repeat' (first | exact trivial | exact fun h => h | refine And.intro ?_ ?_ | (intro hb; first | (simp at hb; done) | (simp at hb) | skip) | omega | exact rfl | exact Nat.le_refl _ | (show _ + 1 ≤ 4294967296; omega) | (dsimp only; omega) | (show (_ : Int) ≤ (_ : Int); omega) | (show _ < List.length _; simp only [List.length_set, List.length_append, List.length_take]; omega) | (show wantB _ _ = true; simp; done) | (show wantB _ _ = true; simp; omega) | (show (_ : Bool) = _; simp_all; done) | (exfalso; omega) | refine aRegion_auto (by decide +kernel) ?_ | fail))
      all_goals first | exact decide_eq_false (by omega) | skip
      refine ⟨Nat, fun j => ⟨[(0, .ref 0 0 n), (1, .fz int a), (2, .fz int b), (8, .fz int 0), (9, .fz .bool false), (10, .fz int i), (11, .fz int ((j : Int) - 1))], [.row int zs]⟩, fun j => Pdq.PtI ltI 0 a b i j zs ∧ (i = b ∨ ltI (zs.getD i 0) (zs.getD a 0) = false) ∧ j ≤ b, fun j => j, b, ⟨hp, hge, Nat.le_refl _⟩, Ent.sub rfl ?_, hc.out⟩
      (repeat' (first | exact trivial | exact rfl | refine And.intro ?_ ?_))
  clear hp p1 p2 p3
  intro j ⟨hp, hge, hj0⟩
  have hp : Pdq.PtI ltI 0 a b i j zs := hp
  have p1 := hp.1
  have p2 := hp.2.1
  have p3 := hp.2.2.1
  show awp _ _ _ ⟨[(0, .ref 0 0 n), (1, .fz int a), (2, .fz int b), (8, .fz int 0), (9, .fz .bool false), (10, .fz int i), (11, .fz int ((j : Int) - 1))], [.row int zs]⟩
  by_cases hij : i < j
  · (repeat' (first | exact trivial | exact fun h => h | refine And.intro ?_ ?_ | (intro hb; first | (simp at hb; done) | (simp at hb) | skip) | omega | exact rfl | exact Nat.le_refl _ | (show _ + 1 ≤ 4294967296; omega) | (dsimp only; omega) | (show (_ : Int) ≤ (_ : Int); omega) | (show _ < List.length _; simp only [List.length_set, List.length_append, List.length_take]; omega) | (show wantB _ _ = true; simp; done) | (show wantB _ _ = true; simp; omega) | (show (_ : Bool) = _; simp_all; done) | (exfalso; omega) | refine aRegion_auto (by decide +kernel) ?_ | fail))
    apply exEff
    · refine ⟨fun _ => ?_, fun h => absurd h (by simp; omega)⟩
      (repeat' (first | refine And.intro ?_ ?_ | (show wantB _ _ = true; simp; omega)))
      refine acall_frame0 rfl (less_int _ _ _ _ ?_)
      exact ⟨rfl, rfl⟩
    have hge : ltI (zs.getD i 0) (zs.getD a 0) = false := hge.resolve_left (by omega)
    (repeat' (first | exact trivial | exact fun h => h | refine And.intro ?_ ?_ | (intro hb; first | (simp at hb; done) | (simp at hb) | skip) | omega | exact rfl | exact Nat.le_refl _ | (show _ + 1 ≤ 4294967296; omega) | (dsimp only; omega) | (show (_ : Int) ≤ (_ : Int); omega) | (show _ < List.length _; simp only [List.length_set, List.length_append, List.length_take]; omega) | (show wantB _ _ = true; simp; done) | (show wantB _ _ = true; simp; omega) | (show (_ : Bool) = _; simp_all; done) | (exfalso; omega) | refine aRegion_auto (by decide +kernel) ?_ | fail))
    · have hle : ltI (zs.getD (j - 1) 0) (zs.getD a 0) = false := by
        have := hb.2
        rw [get_q, get_q] at this
        exact this
      refine ⟨j - 1, ⟨Pdq.pt_dn hp hij hle, .inr hge, by omega⟩, by show j - 1 < j; omega, Ent.sub rfl ?_⟩
      (repeat' (first | exact trivial | exact rfl | refine And.intro ?_ ?_))
      exact congrArg (AV.fz int) (show (j : Int) - 1 - 1 = ((j - 1 : Nat) : Int) - 1 by omega)
    · rename_i hx
      have hlt : ltI (zs.getD (j - 1) 0) (zs.getD a 0) = true := by
        have := hx (by omega)
        rw [get_q, get_q] at this
        exact this
      obtain ⟨hnx, hpx⟩ := Pdq.pt_sw hp (by omega) hij hge hlt
      (repeat' (first | exact trivial | exact fun h => h | refine And.intro ?_ ?_ | (intro hb; first | (simp at hb; done) | (simp at hb) | skip) | omega | exact rfl | exact Nat.le_refl _ | (show _ + 1 ≤ 4294967296; omega) | (dsimp only; omega) | (show (_ : Int) ≤ (_ : Int); omega) | (show _ < List.length _; simp only [List.length_set, List.length_append, List.length_take]; omega) | (show wantB _ _ = true; simp; done) | (show wantB _ _ = true; simp; omega) | (show (_ : Bool) = _; simp_all; done) | (exfalso; omega) | refine aRegion_auto (by decide +kernel) ?_ | fail))
      (apply exEff; focus (repeat' (first | exact ⟨rfl, rfl⟩ | exact trivial | refine And.intro ?_ ?_ | omega | exact Nat.le_refl _ | (show _ + 1 ≤ 4294967296; omega))))
      (repeat' (first | exact trivial | exact fun h => h | refine And.intro ?_ ?_ | (intro hb; first | (simp at hb; done) | (simp at hb) | skip) | omega | exact rfl | exact Nat.le_refl _ | (show _ + 1 ≤ 4294967296; omega) | (dsimp only; omega) | (show (_ : Int) ≤ (_ : Int); omega) | (show _ < List.length _; simp only [List.length_set, List.length_append, List.length_take]; omega) | (show wantB _ _ = true; simp; done) | (show wantB _ _ = true; simp; omega) | (show (_ : Bool) = _; simp_all; done) | (exfalso; omega) | refine aRegion_auto (by decide +kernel) ?_ | fail))
      (apply exEff; focus (repeat' (first | exact ⟨rfl, rfl⟩ | exact trivial | refine And.intro ?_ ?_ | omega | exact Nat.le_refl _ | (show _ + 1 ≤ 4294967296; omega))))
      (repeat' (first | exact trivial | exact fun h => h | refine And.intro ?_ ?_ | (intro hb; first | (simp at hb; done) | (simp at hb) | skip) | omega | exact rfl | exact Nat.le_refl _ | (show _ + 1 ≤ 4294967296; omega) | (dsimp only; omega) | (show (_ : Int) ≤ (_ : Int); omega) | (show _ < List.length _; simp only [List.length_set, List.length_append, List.length_take]; omega) | (show wantB _ _ = true; simp; done) | (show wantB _ _ = true; simp; omega) | (show (_ : Bool) = _; simp_all; done) | (exfalso; omega) | refine aRegion_auto (by decide +kernel) ?_ | fail))
      have eS := set_sw (xs := zs) (x := (i : Int)) (y := (j : Int) - 1) (i := i) (j := j - 1) (u := zs.getD (j - 1) 0) (v := zs.getD i 0) (by omega) (by omega) rfl rfl
      have eG : List.getD zs (0 + Int.toNat ((j : Int) - 1)) int.dft = zs.getD (j - 1) 0 := get_at (by omega)
      have eH : List.getD zs (0 + Int.toNat (i : Int)) int.dft = zs.getD i 0 := get_at (by omega)
      rw [← eG, ← eH] at eS
      refine ⟨List Int × Nat × Nat, fun x => ⟨[(0, .ref 0 0 n), (1, .fz int a), (2, .fz int b), (8, .fz int 0), (9, .fz .bool false), (10, .fz int x.2.1), (11, .fz int ((x.2.2 : Int) - 1))], [.row int x.1]⟩, fun x => Pdq.SP 0 a b xs x.1 ∧ Pdq.PtI ltI 0 a b x.2.1 x.2.2 x.1, fun x => x.2.2, (Pdq.sw 0 zs i (j - 1), i + 1, j - 1), ⟨.step hsp ⟨by omega, by omega⟩ ⟨by omega, by omega⟩ (by omega), hpx⟩, Ent.sub (congrArg (fun l => [AO.row int l]) eS) ?_, ?_⟩
      · (repeat' (first | exact trivial | exact rfl | refine And.intro ?_ ?_))
        exact congrArg (AV.fz int) (show (j : Int) - 1 - 1 = ((j - 1 : Nat) : Int) - 1 by omega)
      rintro ⟨ws, i0, j0⟩ ⟨hsp, hp⟩
      have hsp : Pdq.SP 0 a b xs ws := hsp
      have hp0 : Pdq.PtI ltI 0 a b i0 j0 ws := hp
      have hlz := hsp.len
      have p01 := hp0.1
      have p02 := hp0.2.1
      have p03 := hp0.2.2.1
      clear hp
      show awp _ _ _ ⟨[(0, .ref 0 0 n), (1, .fz int a), (2, .fz int b), (8, .fz int 0), (9, .fz .bool false), (10, .fz int i0), (11, .fz int ((j0 : Int) - 1))], [.row int ws]⟩
      refine ⟨Nat, fun i => ⟨[(0, .ref 0 0 n), (1, .fz int a), (2, .fz int b), (8, .fz int 0), (9, .fz .bool false), (10, .fz int i), (11, .fz int ((j0 : Int) - 1))], [.row int ws]⟩, fun i => Pdq.PtI ltI 0 a b i j0 ws, fun i => n - i, i0, hp0, Ent.sub rfl ?_, ?_⟩
      · (repeat' (first | exact trivial | exact rfl | refine And.intro ?_ ?_))
      intro i hp
      have hp : Pdq.PtI ltI 0 a b i j0 ws := hp
      have p1 := hp.1
      have p2 := hp.2.1
      have p3 := hp.2.2.1
      show awp _ _ _ ⟨[(0, .ref 0 0 n), (1, .fz int a), (2, .fz int b), (8, .fz int 0), (9, .fz .bool false), (10, .fz int i), (11, .fz int ((j0 : Int) - 1))], [.row int ws]⟩
      apply merge
      · intro hc
        by_cases hij : i < j0
        · have q1 : 0 + Int.toNat (i : Int) = i := by omega
          have q2 : 0 + Int.toNat (a : Int) = a := by omega
          (repeat' (first | exact trivial | exact fun h => h | refine And.intro ?_ ?_ | (intro hb; first | (simp at hb; done) | (simp at hb) | skip) | omega | exact rfl | exact Nat.le_refl _ | (show _ + 1 ≤ 4294967296; omega) | (dsimp only; omega) | (show (_ : Int) ≤ (_ : Int); omega) | (show _ < List.length _; simp only [List.length_set, List.length_append, List.length_take]; omega) | (show wantB _ _ = true; simp; done) | (show wantB _ _ = true; simp; omega) | (show (_ : Bool) = _; simp_all; done) | (exfalso; omega) | refine aRegion_auto (by decide +kernel) ?_ | fail))
          apply exEff
          · refine ⟨fun _ => ?_, fun h => absurd h (by simp; omega)⟩
            (repeat' (first | refine And.intro ?_ ?_ | (show wantB _ _ = true; simp; omega)))
            refine acall_frame0 rfl (less_int _ _ _ _ ?_)
            exact ⟨rfl, rfl⟩
          (repeat' (first | exact trivial | exact fun h => h | refine And.intro ?_ ?_ | (intro hb; first | (simp at hb; done) | (simp at hb) | skip) | omega | exact rfl | exact Nat.le_refl _ | (show _ + 1 ≤ 4294967296; omega) | (dsimp only; omega) | (show (_ : Int) ≤ (_ : Int); omega) | (show _ < List.length _; simp only [List.length_set, List.length_append, List.length_take]; omega) | (show wantB _ _ = true; simp; done) | (show wantB _ _ = true; simp; omega) | (show (_ : Bool) = _; simp_all; done) | (exfalso; omega) | refine aRegion_auto (by decide +kernel) ?_ | fail))
          · have hlt : ltI (ws.getD i 0) (ws.getD a 0) = true := by rw [← get_q, ← get_q]; exact hb.2
            refine ⟨i + 1, Pdq.pt_up hp hij hlt, by show n - (i + 1) < n - i; omega, Ent.sub rfl ?_⟩
            (repeat' (first | exact trivial | exact rfl | refine And.intro ?_ ?_))
          · have hge : i = j0 ∨ ltI (ws.getD i 0) (ws.getD a 0) = false := by
              have := hb (by omega)
              rw [get_q, get_q] at this
              exact .inr this
            refine ⟨Nat, fun j => ⟨[(0, .ref 0 0 n), (1, .fz int a), (2, .fz int b), (8, .fz int 0), (9, .fz .bool false), (10, .fz int i), (11, .fz int ((j : Int) - 1))], [.row int ws]⟩, fun j => Pdq.PtI ltI 0 a b i j ws ∧ (i = j0 ∨ ltI (ws.getD i 0) (ws.getD a 0) = false) ∧ j ≤ j0, fun j => j, j0, ⟨hp, hge, Nat.le_refl _⟩, Ent.sub rfl ?_, hc.out⟩
            (repeat' (first | exact trivial | exact rfl | refine And.intro ?_ ?_))
        · have hge : i = j0 ∨ ltI (ws.getD i 0) (ws.getD a 0) = false := .inl (by omega)
          (repeat' (first | exact trivial | exact fun h => h | refine And.intro ?_ ?_ | (intro hb; first | (simp at hb; done) | (simp at hb) | skip) | omega | exact rfl | exact Nat.le_refl _ | (show _ + 1 ≤ 4294967296; omega) | (dsimp only; omega) | (show (_ : Int) ≤ (_ : Int); omega) | (show _ < List.length _; simp only [List.length_set, List.length_append, List.length_take]; omega) | (show wantB _ _ = true; simp; done) | (show wantB _ _ = true; simp; omega) | (show (_ : Bool) = _; simp_all; done) | (exfalso; omega) | refine aRegion_auto (by decide +kernel) ?_ | fail))
          apply exEff
          · refine ⟨fun h => absurd h (by simp; omega), fun _ => ⟨rfl, rfl⟩⟩
          (repeat' (first | exact trivial | exact fun h => h | refine And.intro ?_ ?_ | (intro hb; first | (simp at hb; done) | (simp at hb) | skip) | omega | exact rfl | exact Nat.le_refl _ | (show _ + 1 ≤ 4294967296; omega) | (dsimp only; omega) | (show (_ : Int) ≤ (_ : Int); omega) | (show _ < List.length _; simp only [List.length_set, List.length_append, List.length_take]; omega) | (show wantB _ _ = true; simp; done) | (show wantB _ _ = true; simp; omega) | (show (_ : Bool) = _; simp_all; done) | (exfalso; omega) | refine aRegion_auto (by decide +kernel) ?_ | fail))
          all_goals first | exact decide_eq_false (by omega) | skip
          refine ⟨Nat, fun j => ⟨[(0, .ref 0 0 n), (1, .fz int a), (2, .fz int b), (8, .fz int 0), (9, .fz .bool false), (10, .fz int i), (11, .fz int ((j : Int) - 1))], [.row int ws]⟩, fun j => Pdq.PtI ltI 0 a b i j ws ∧ (i = j0 ∨ ltI (ws.getD i 0) (ws.getD a 0) = false) ∧ j ≤ j0, fun j => j, j0, ⟨hp, hge, Nat.le_refl _⟩, Ent.sub rfl ?_, hc.out⟩
          (repeat' (first | exact trivial | exact rfl | refine And.intro ?_ ?_))
      clear hp p1 p2 p3
      intro j ⟨hp, hge, hj0⟩
      have hp : Pdq.PtI ltI 0 a b i j ws := hp
      have p1 := hp.1
      have p2 := hp.2.1
      have p3 := hp.2.2.1
      show awp _ _ _ ⟨[(0, .ref 0 0 n), (1, .fz int a), (2, .fz int b), (8, .fz int 0), (9, .fz .bool false), (10, .fz int i), (11, .fz int ((j : Int) - 1))], [.row int ws]⟩
      by_cases hij : i < j
      · (repeat' (first | exact trivial | exact fun h => h | refine And.intro ?_ ?_ | (intro hb; first | (simp at hb; done) | (simp at hb) | skip) | omega | exact rfl | exact Nat.le_refl _ | (show _ + 1 ≤ 4294967296; omega) | (dsimp only; omega) | (show (_ : Int) ≤ (_ : Int); omega) | (show _ < List.length _; simp only [List.length_set, List.length_append, List.length_take]; omega) | (show wantB _ _ = true; simp; done) | (show wantB _ _ = true; simp; omega) | (show (_ : Bool) = _; simp_all; done) | (exfalso; omega) | refine aRegion_auto (by decide +kernel) ?_ | fail))
        apply exEff
        · refine ⟨fun _ => ?_, fun h => absurd h (by simp; omega)⟩
          (repeat' (first | refine And.intro ?_ ?_ | (show wantB _ _ = true; simp; omega)))
          refine acall_frame0 rfl (less_int _ _ _ _ ?_)
          exact ⟨rfl, rfl⟩
        have hge : ltI (ws.getD i 0) (ws.getD a 0) = false := hge.resolve_left (by omega)
        (repeat' (first | exact trivial | exact fun h => h | refine And.intro ?_ ?_ | (intro hb; first | (simp at hb; done) | (simp at hb) | skip) | omega | exact rfl | exact Nat.le_refl _ | (show _ + 1 ≤ 4294967296; omega) | (dsimp only; omega) | (show (_ : Int) ≤ (_ : Int); omega) | (show _ < List.length _; simp only [List.length_set, List.length_append, List.length_take]; omega) | (show wantB _ _ = true; simp; done) | (show wantB _ _ = true; simp; omega) | (show (_ : Bool) = _; simp_all; done) | (exfalso; omega) | refine aRegion_auto (by decide +kernel) ?_ | fail))
        · have hle : ltI (ws.getD (j - 1) 0) (ws.getD a 0) = false := by
            have := hb.2
            rw [get_q, get_q] at this
            exact this
          refine ⟨j - 1, ⟨Pdq.pt_dn hp hij hle, .inr hge, by omega⟩, by show j - 1 < j; omega, Ent.sub rfl ?_⟩
          (repeat' (first | exact trivial | exact rfl | refine And.intro ?_ ?_))
          exact congrArg (AV.fz int) (show (j : Int) - 1 - 1 = ((j - 1 : Nat) : Int) - 1 by omega)
        · rename_i hx
          have hlt : ltI (ws.getD (j - 1) 0) (ws.getD a 0) = true := by
            have := hx (by omega)
            rw [get_q, get_q] at this
            exact this
          obtain ⟨hnx, hpx⟩ := Pdq.pt_sw hp (by omega) hij hge hlt
          (repeat' (first | exact trivial | exact fun h => h | refine And.intro ?_ ?_ | (intro hb; first | (simp at hb; done) | (simp at hb) | skip) | omega | exact rfl | exact Nat.le_refl _ | (show _ + 1 ≤ 4294967296; omega) | (dsimp only; omega) | (show (_ : Int) ≤ (_ : Int); omega) | (show _ < List.length _; simp only [List.length_set, List.length_append, List.length_take]; omega) | (show wantB _ _ = true; simp; done) | (show wantB _ _ = true; simp; omega) | (show (_ : Bool) = _; simp_all; done) | (exfalso; omega) | refine aRegion_auto (by decide +kernel) ?_ | fail))
          (apply exEff; focus (repeat' (first | exact ⟨rfl, rfl⟩ | exact trivial | refine And.intro ?_ ?_ | omega | exact Nat.le_refl _ | (show _ + 1 ≤ 4294967296; omega))))
          (repeat' (first | exact trivial | exact fun h => h | refine And.intro ?_ ?_ | (intro hb; first | (simp at hb; done) | (simp at hb) | skip) | omega | exact rfl | exact Nat.le_refl _ | (show _ + 1 ≤ 4294967296; omega) | (dsimp only; omega) | (show (_ : Int) ≤ (_ : Int); omega) | (show _ < List.length _; simp only [List.length_set, List.length_append, List.length_take]; omega) | (show wantB _ _ = true; simp; done) | (show wantB _ _ = true; simp; omega) | (show (_ : Bool) = _; simp_all; done) | (exfalso; omega) | refine aRegion_auto (by decide +kernel) ?_ | fail))
          (apply exEff; focus (repeat' (first | exact ⟨rfl, rfl⟩ | exact trivial | refine And.intro ?_ ?_ | omega | exact Nat.le_refl _ | (show _ + 1 ≤ 4294967296; omega))))
          (repeat' (first | exact trivial | exact fun h => h | refine And.intro ?_ ?_ | (intro hb; first | (simp at hb; done) | (simp at hb) | skip) | omega | exact rfl | exact Nat.le_refl _ | (show _ + 1 ≤ 4294967296; omega) | (dsimp only; omega) | (show (_ : Int) ≤ (_ : Int); omega) | (show _ < List.length _; simp only [List.length_set, List.length_append, List.length_take]; omega) | (show wantB _ _ = true; simp; done) | (show wantB _ _ = true; simp; omega) | (show (_ : Bool) = _; simp_all; done) | (exfalso; omega) | refine aRegion_auto (by decide +kernel) ?_ | fail))
          have eS := set_sw (xs := ws) (x := (i : Int)) (y := (j : Int) - 1) (i := i) (j := j - 1) (u := ws.getD (j - 1) 0) (v := ws.getD i 0) (by omega) (by omega) rfl rfl
          have eG : List.getD ws (0 + Int.toNat ((j : Int) - 1)) int.dft = ws.getD (j - 1) 0 := get_at (by omega)
          have eH : List.getD ws (0 + Int.toNat (i : Int)) int.dft = ws.getD i 0 := get_at (by omega)
          rw [← eG, ← eH] at eS
          refine ⟨(Pdq.sw 0 ws i (j - 1), i + 1, j - 1), ⟨.step hsp ⟨by omega, by omega⟩ ⟨by omega, by omega⟩ (by omega), hpx⟩, by show j - 1 < j0; omega, Ent.sub (congrArg (fun l => [AO.row int l]) eS) ?_⟩
          (repeat' (first | exact trivial | exact rfl | refine And.intro ?_ ?_))
          exact congrArg (AV.fz int) (show (j : Int) - 1 - 1 = ((j - 1 : Nat) : Int) - 1 by omega)
      · have hie : j = i := by omega
        subst hie
        (repeat' (first | exact trivial | exact fun h => h | refine And.intro ?_ ?_ | (intro hb; first | (simp at hb; done) | (simp at hb) | skip) | omega | exact rfl | exact Nat.le_refl _ | (show _ + 1 ≤ 4294967296; omega) | (dsimp only; omega) | (show (_ : Int) ≤ (_ : Int); omega) | (show _ < List.length _; simp only [List.length_set, List.length_append, List.length_take]; omega) | (show wantB _ _ = true; simp; done) | (show wantB _ _ = true; simp; omega) | (show (_ : Bool) = _; simp_all; done) | (exfalso; omega) | refine aRegion_auto (by decide +kernel) ?_ | fail))
        apply exEff
        · refine ⟨fun h => absurd h (by simp; omega), fun _ => ⟨rfl, rfl⟩⟩
        (repeat' (first | exact trivial | exact fun h => h | refine And.intro ?_ ?_ | (intro hb; first | (simp at hb; done) | (simp at hb) | skip) | omega | exact rfl | exact Nat.le_refl _ | (show _ + 1 ≤ 4294967296; omega) | (dsimp only; omega) | (show (_ : Int) ≤ (_ : Int); omega) | (show _ < List.length _; simp only [List.length_set, List.length_append, List.length_take]; omega) | (show wantB _ _ = true; simp; done) | (show wantB _ _ = true; simp; omega) | (show (_ : Bool) = _; simp_all; done) | (exfalso; omega) | refine aRegion_auto (by decide +kernel) ?_ | fail))
        all_goals first | exact decide_eq_false (by omega) | skip
        (apply exEff; focus (repeat' (first | exact ⟨rfl, rfl⟩ | exact trivial | refine And.intro ?_ ?_ | omega | exact Nat.le_refl _ | (show _ + 1 ≤ 4294967296; omega))))
        (repeat' (first | exact trivial | exact fun h => h | refine And.intro ?_ ?_ | (intro hb; first | (simp at hb; done) | (simp at hb) | skip) | omega | exact rfl | exact Nat.le_refl _ | (show _ + 1 ≤ 4294967296; omega) | (dsimp only; omega) | (show (_ : Int) ≤ (_ : Int); omega) | (show _ < List.length _; simp only [List.length_set, List.length_append, List.length_take]; omega) | (show wantB _ _ = true; simp; done) | (show wantB _ _ = true; simp; omega) | (show (_ : Bool) = _; simp_all; done) | (exfalso; omega) | refine aRegion_auto (by decide +kernel) ?_ | fail))
        (apply exEff; focus (repeat' (first | exact ⟨rfl, rfl⟩ | exact trivial | refine And.intro ?_ ?_ | omega | exact Nat.le_refl _ | (show _ + 1 ≤ 4294967296; omega))))
        (repeat' (first | exact trivial | exact fun h => h | refine And.intro ?_ ?_ | (intro hb; first | (simp at hb; done) | (simp at hb) | skip) | omega | exact rfl | exact Nat.le_refl _ | (show _ + 1 ≤ 4294967296; omega) | (dsimp only; omega) | (show (_ : Int) ≤ (_ : Int); omega) | (show _ < List.length _; simp only [List.length_set, List.length_append, List.length_take]; omega) | (show wantB _ _ = true; simp; done) | (show wantB _ _ = true; simp; omega) | (show (_ : Bool) = _; simp_all; done) | (exfalso; omega) | refine aRegion_auto (by decide +kernel) ?_ | fail))
        have eA := set_sw (xs := ws) (x := (j : Int) - 1) (y := (a : Int)) (i := j - 1) (j := a) (u := ws.getD a 0) (v := ws.getD (j - 1) 0) (by omega) (by omega) rfl rfl
        have eG : List.getD ws (0 + Int.toNat ((j : Int) - 1)) int.dft = ws.getD (j - 1) 0 := get_at (by omega)
        have eH : List.getD ws (0 + Int.toNat (a : Int)) int.dft = ws.getD a 0 := get_at (by omega)
        rw [← eG, ← eH] at eA
        exact ⟨.tup [.fz int ((j - 1 : Nat) : Int), .fz .bool false], [.row int (Pdq.sw 0 ws (j - 1) a)], REnt.of_eq (congrArg (fun z => AV.tup [.fz int z, .fz .bool false]) (show (j : Int) - 1 = ((j - 1 : Nat) : Int) by omega)) (congrArg (fun l => [AO.row int l]) eA), hK _ (j - 1) false (.step hsp ⟨by omega, by omega⟩ ⟨by omega, by omega⟩ (by omega)) (Pdq.pt_end hp (by omega))⟩
  · have hie : j = i := by omega
    subst hie
    (repeat' (first | exact trivial | exact fun h => h | refine And.intro ?_ ?_ | (intro hb; first | (simp at hb; done) | (simp at hb) | skip) | omega | exact rfl | exact Nat.le_refl _ | (show _ + 1 ≤ 4294967296; omega) | (dsimp only; omega) | (show (_ : Int) ≤ (_ : Int); omega) | (show _ < List.length _; simp only [List.length_set, List.length_append, List.length_take]; omega) | (show wantB _ _ = true; simp; done) | (show wantB _ _ = true; simp; omega) | (show (_ : Bool) = _; simp_all; done) | (exfalso; omega) | refine aRegion_auto (by decide +kernel) ?_ | fail))
    apply exEff
    · refine ⟨fun h => absurd h (by simp; omega), fun _ => ⟨rfl, rfl⟩⟩
    (repeat' (first | exact trivial | exact fun h => h | refine And.intro ?_ ?_ | (intro hb; first | (simp at hb; done) | (simp at hb) | skip) | omega | exact rfl | exact Nat.le_refl _ | (show _ + 1 ≤ 4294967296; omega) | (dsimp only; omega) | (show (_ : Int) ≤ (_ : Int); omega) | (show _ < List.length _; simp only [List.length_set, List.length_append, List.length_take]; omega) | (show wantB _ _ = true; simp; done) | (show wantB _ _ = true; simp; omega) | (show (_ : Bool) = _; simp_all; done) | (exfalso; omega) | refine aRegion_auto (by decide +kernel) ?_ | fail))
    all_goals first | exact decide_eq_false (by omega) | skip
    (apply exEff; focus (repeat' (first | exact ⟨rfl, rfl⟩ | exact trivial | refine And.intro ?_ ?_ | omega | exact Nat.le_refl _ | (show _ + 1 ≤ 4294967296; omega))))
    (repeat' (first | exact trivial | exact fun h => h | refine And.intro ?_ ?_ | (intro hb; first | (simp at hb; done) | (simp at hb) | skip) | omega | exact rfl | exact Nat.le_refl _ | (show _ + 1 ≤ 4294967296; omega) | (dsimp only; omega) | (show (_ : Int) ≤ (_ : Int); omega) | (show _ < List.length _; simp only [List.length_set, List.length_append, List.length_take]; omega) | (show wantB _ _ = true; simp; done) | (show wantB _ _ = true; simp; omega) | (show (_ : Bool) = _; simp_all; done) | (exfalso; omega) | refine aRegion_auto (by decide +kernel) ?_ | fail))
    (apply exEff; focus (repeat' (first | exact ⟨rfl, rfl⟩ | exact trivial | refine And.intro ?_ ?_ | omega | exact Nat.le_refl _ | (show _ + 1 ≤ 4294967296; omega))))
    (repeat' (first | exact trivial | exact fun h => h | refine And.intro ?_ ?_ | (intro hb; first | (simp at hb; done) | (simp at hb) | skip) | omega | exact rfl | exact Nat.le_refl _ | (show _ + 1 ≤ 4294967296; omega) | (dsimp only; omega) | (show (_ : Int) ≤ (_ : Int); omega) | (show _ < List.length _; simp only [List.length_set, List.length_append, List.length_take]; omega) | (show wantB _ _ = true; simp; done) | (show wantB _ _ = true; simp; omega) | (show (_ : Bool) = _; simp_all; done) | (exfalso; omega) | refine aRegion_auto (by decide +kernel) ?_ | fail))
    have eA := set_sw (xs := zs) (x := (j : Int) - 1) (y := (a : Int)) (i := j - 1) (j := a) (u := zs.getD a 0) (v := zs.getD (j - 1) 0) (by omega) (by omega) rfl rfl
    have eG : List.getD zs (0 + Int.toNat ((j : Int) - 1)) int.dft = zs.getD (j - 1) 0 := get_at (by omega)
    have eH : List.getD zs (0 + Int.toNat (a : Int)) int.dft = zs.getD a 0 := get_at (by omega)
    rw [← eG, ← eH] at eA
    exact ⟨.tup [.fz int ((j - 1 : Nat) : Int), .fz .bool true], [.row int (Pdq.sw 0 zs (j - 1) a)], REnt.of_eq (congrArg (fun z => AV.tup [.fz int z, .fz .bool true]) (show (j : Int) - 1 = ((j - 1 : Nat) : Int) by omega)) (congrArg (fun l => [AO.row int l]) eA), hK _ (j - 1) true (.step hsp ⟨by omega, by omega⟩ ⟨by omega, by omega⟩ (by omega)) (Pdq.pt_end hp (by omega))⟩
end Go.Proofs.YtepkknjncpbahaaDoor
/-
  Sorting numbers: the partition of what is as great as the pivot.
-/
namespace Pdq
variable {α : Type}
theorem pt_endE {lt : α → α → Bool} (O : LtOk lt) {d : α} {a b j : Nat} {xs : List α} (h : PtI (fun x y => !lt y x) d a b j j xs) : ParE lt d a b j xs := by
  obtain ⟨h1, h2, h3, h4, h5⟩ := h
  refine ⟨by omega, h3, fun k k1 k2 => ?_, fun k k1 k2 => by simpa using h5 k k1 k2⟩
  by_cases e : k = a
  · rw [e]; exact le_refl O _
  · have := h4 k (by omega) k2
    show lt _ _ = false
    simpa using this
end Pdq
namespace Go.Proofs.YtepkknjncpbahaaDoor
open Go Go.Ab
set_option maxRecDepth 100000
def ltE (x y : Int) : Bool := !ltI y x
set_option maxHeartbeats 8000000 in
theorem partitionEqual_any (G : List (Nat × Value)) (xs : List Int) (n a b p : Nat) (hn : xs.length = n) (hs : n ≤ 1000000000) (hab : a ≤ p) (hpb : p < b) (hbn : b ≤ n) (K : AV → List AO → Prop) (hK : ∀ ys (m : Nat), Pdq.SP 0 a b xs ys → Pdq.ParE ltI 0 a b m ys → ys.getD a 0 = xs.getD p 0 → K (.fz int m) [.row int ys]) :
    ACall Tryd.prog G 85 [.ref 0 0 n, .fz int a, .fz int b, .fz int p] [.row int xs] K := by
  refine acall_mk (E := envAt G 84 1) (envOk _ _ _) Tryd.func85 rfl rfl rfl rfl rfl ?_
  (repeat' (first | exact trivial | exact fun h => h | refine And.intro ?_ ?_ | (intro hb; first | (simp at hb; done) | (simp at hb) | skip) | omega | exact rfl | exact Nat.le_refl _ | (show _ + 1 ≤ 4294967296; omega) | (dsimp only; omega) | (show (_ : Int) ≤ (_ : Int); omega) | (show _ < List.length _; simp only [List.length_set, List.length_append, List.length_take]; omega) | (show wantB _ _ = true; simp; done) | (show wantB _ _ = true; simp; omega) | (show (_ : Bool) = _; simp_all; done) | (exfalso; omega) | refine aRegion_auto (by decide +kernel) ?_ | fail))
  (apply exEff; focus (repeat' (first | exact ⟨rfl, rfl⟩ | exact trivial | refine And.intro ?_ ?_ | omega | exact Nat.le_refl _ | (show _ + 1 ≤ 4294967296; omega))))
  (repeat' (first | exact trivial | exact fun h => h | refine And.intro ?_ ?_ | (intro hb; first | (simp at hb; done) | (simp at hb) | skip) | omega | exact rfl | exact Nat.le_refl _ | (show _ + 1 ≤ 4294967296; omega) | (dsimp only; omega) | (show (_ : Int) ≤ (_ : Int); omega) | (show _ < List.length _; simp only [List.length_set, List.length_append, List.length_take]; omega) | (show wantB _ _ = true; simp; done) | (show wantB _ _ = true; simp; omega) | (show (_ : Bool) = _; simp_all; done) | (exfalso; omega) | refine aRegion_auto (by decide +kernel) ?_ | fail))
  (apply exEff; focus (repeat' (first | exact ⟨rfl, rfl⟩ | exact trivial | refine And.intro ?_ ?_ | omega | exact Nat.le_refl _ | (show _ + 1 ≤ 4294967296; omega))))
  (repeat' (first | exact trivial | exact fun h => h | refine And.intro ?_ ?_ | (intro hb; first | (simp at hb; done) | (simp at hb) | skip) | omega | exact rfl | exact Nat.le_refl _ | (show _ + 1 ≤ 4294967296; omega) | (dsimp only; omega) | (show (_ : Int) ≤ (_ : Int); omega) | (show _ < List.length _; simp only [List.length_set, List.length_append, List.length_take]; omega) | (show wantB _ _ = true; simp; done) | (show wantB _ _ = true; simp; omega) | (show (_ : Bool) = _; simp_all; done) | (exfalso; omega) | refine aRegion_auto (by decide +kernel) ?_ | fail))
  obtain ⟨zs, ezs⟩ : ∃ zs, zs = Pdq.sw 0 xs a p := ⟨_, rfl⟩
  have hsp : Pdq.SP 0 a b xs zs := by rw [ezs]; exact .step (.refl _) ⟨by omega, by omega⟩ ⟨by omega, by omega⟩ (by omega)
  have hlz := hsp.len
  have hza : zs.getD a 0 = xs.getD p 0 := by
    rw [ezs, Pdq.sw_get 0 xs (by omega) (by omega)]
    split
    · rename_i e; rw [e]
    · rw [if_pos rfl]
  have eA : List.set (List.set xs (0 + Int.toNat (a : Int)) (List.getD xs (0 + Int.toNat (p : Int)) int.dft)) (0 + Int.toNat (p : Int)) (List.getD xs (0 + Int.toNat (a : Int)) int.dft) = zs := ezs ▸ set_sw (by omega) (by omega) (get_at (by omega)) (get_at (by omega))
  refine ⟨List Int × Nat × Nat, fun x => ⟨[(0, .ref 0 0 n), (1, .fz int a), (2, .fz int b), (8, .fz int 0), (9, .fz int x.2.1), (10, .fz int ((x.2.2 : Int) - 1))], [.row int x.1]⟩, fun x => Pdq.SP 0 a b xs x.1 ∧ Pdq.PtI ltE 0 a b x.2.1 x.2.2 x.1 ∧ x.1.getD a 0 = xs.getD p 0, fun x => x.2.2, (zs, a + 1, b), ⟨hsp, Pdq.pt_start (by omega), hza⟩, Ent.sub (congrArg (fun l => [AO.row int l]) eA) ?_, ?_⟩
  · (repeat' (first | exact trivial | exact rfl | refine And.intro ?_ ?_))
  clear hza eA hsp hlz
  rintro ⟨ws, i0, j0⟩ ⟨hsp, hp, hwa⟩
  have hsp : Pdq.SP 0 a b xs ws := hsp
  have hp0 : Pdq.PtI ltE 0 a b i0 j0 ws := hp
  have hwa : ws.getD a 0 = xs.getD p 0 := hwa
  have hlz := hsp.len
  have p01 := hp0.1
  have p02 := hp0.2.1
  have p03 := hp0.2.2.1
  clear hp
  show awp _ _ _ ⟨[(0, .ref 0 0 n), (1, .fz int a), (2, .fz int b), (8, .fz int 0), (9, .fz int i0), (10, .fz int ((j0 : Int) - 1))], [.row int ws]⟩
  refine ⟨Nat, fun i => ⟨[(0, .ref 0 0 n), (1, .fz int a), (2, .fz int b), (8, .fz int 0), (9, .fz int i), (10, .fz int ((j0 : Int) - 1))], [.row int ws]⟩, fun i => Pdq.PtI ltE 0 a b i j0 ws, fun i => n - i, i0, hp0, Ent.sub rfl ?_, ?_⟩
  · (repeat' (first | exact trivial | exact rfl | refine And.intro ?_ ?_))
  intro i hp
  have hp : Pdq.PtI ltE 0 a b i j0 ws := hp
  have p1 := hp.1
  have p2 := hp.2.1
  have p3 := hp.2.2.1
  show awp _ _ _ ⟨[(0, .ref 0 0 n), (1, .fz int a), (2, .fz int b), (8, .fz int 0), (9, .fz int i), (10, .fz int ((j0 : Int) - 1))], [.row int ws]⟩
  apply merge
  · intro hc
    by_cases hij : i < j0
    · have q1 : 0 + Int.toNat (i : Int) = i := by omega
      have q2 : 0 + Int.toNat (a : Int) = a := by omega
      (repeat' (first | exact trivial | exact fun h => h | refine And.intro ?_ ?_ | (intro hb; first | (simp at hb; done) | (simp at hb) | skip) | omega | exact rfl | exact Nat.le_refl _ | (show _ + 1 ≤ 4294967296; omega) | (dsimp only; omega) | (show (_ : Int) ≤ (_ : Int); omega) | (show _ < List.length _; simp only [List.length_set, List.length_append, List.length_take]; omega) | (show wantB _ _ = true; simp; done) | (show wantB _ _ = true; simp; omega) | (show (_ : Bool) = _; simp_all; done) | (exfalso; omega) | refine aRegion_auto (by decide +kernel) ?_ | fail))
      apply exEff
      · refine ⟨fun _ => ?_, fun h => absurd h (by simp; omega)⟩
        (repeat' (first | refine And.intro ?_ ?_ | (show wantB _ _ = true; simp; omega)))
        refine acall_frame0 rfl (less_int _ _ _ _ ?_)
        exact ⟨rfl, rfl⟩
      (repeat' (first | exact trivial | exact fun h => h | refine And.intro ?_ ?_ | (intro hb; first | (simp at hb; done) | (simp at hb) | skip) | omega | exact rfl | exact Nat.le_refl _ | (show _ + 1 ≤ 4294967296; omega) | (dsimp only; omega) | (show (_ : Int) ≤ (_ : Int); omega) | (show _ < List.length _; simp only [List.length_set, List.length_append, List.length_take]; omega) | (show wantB _ _ = true; simp; done) | (show wantB _ _ = true; simp; omega) | (show (_ : Bool) = _; simp_all; done) | (exfalso; omega) | refine aRegion_auto (by decide +kernel) ?_ | fail))
      · have hlt : ltE (ws.getD i 0) (ws.getD a 0) = true := by (have := hb.2; rw [get_q, get_q] at this; show (!ltI _ _) = true; rw [this]; rfl)
        refine ⟨i + 1, Pdq.pt_up hp hij hlt, by show n - (i + 1) < n - i; omega, Ent.sub rfl ?_⟩
        (repeat' (first | exact trivial | exact rfl | refine And.intro ?_ ?_))
      · have hge : i = j0 ∨ ltE (ws.getD i 0) (ws.getD a 0) = false := by
          have := hb (by omega)
          rw [get_q, get_q] at this
          refine .inr ?_
          show (!ltI _ _) = false
          rw [this]; rfl
        refine ⟨Nat, fun j => ⟨[(0, .ref 0 0 n), (1, .fz int a), (2, .fz int b), (8, .fz int 0), (9, .fz int i), (10, .fz int ((j : Int) - 1))], [.row int ws]⟩, fun j => Pdq.PtI ltE 0 a b i j ws ∧ (i = j0 ∨ ltE (ws.getD i 0) (ws.getD a 0) = false) ∧ j ≤ j0, fun j => j, j0, ⟨hp, hge, Nat.le_refl _⟩, Ent.sub rfl ?_, hc.out⟩
        (repeat' (first | exact trivial | exact rfl | refine And.intro ?_ ?_))
    · have hge : i = j0 ∨ ltE (ws.getD i 0) (ws.getD a 0) = false := .inl (by omega)
      (repeat' (first | exact trivial | exact fun h => h | refine And.intro ?_ ?_ | (intro hb; first | (simp at hb; done) | (simp at hb) | skip) | omega | exact rfl | exact Nat.le_refl _ | (show _ + 1 ≤ 4294967296; omega) | (dsimp only; omega) | (show (_ : Int) ≤ (_ : Int); omega) | (show _ < List.length _; simp only [List.length_set, List.length_append, List.length_take]; omega) | (show wantB _ _ = true; simp; done) | (show wantB _ _ = true; simp; omega) | (show (_ : Bool) = _; simp_all; done) | (exfalso; omega) | refine aRegion_auto (by decide +kernel) ?_ | fail))
      apply exEff
      · refine ⟨fun h => absurd h (by simp; omega), fun _ => ⟨rfl, rfl⟩⟩
      (repeat' (first | exact trivial | exact fun h => h | refine And.intro ?_ ?_ | (intro hb; first | (simp at hb; done) | (simp at hb) | skip) | omega | exact rfl | exact Nat.le_refl _ | (show _ + 1 ≤ 4294967296; omega) | (dsimp only; omega) | (show (_ : Int) ≤ (_ : Int); omega) | (show _ < List.length _; simp only [List.length_set, List.length_append, List.length_take]; omega) | (show wantB _ _ = true; simp; done) | (show wantB _ _ = true; simp; omega) | (show (_ : Bool) = _; simp_all; done) | (exfalso; omega) | refine aRegion_auto (by decide +kernel) ?_ | fail))
      all_goals first | exact decide_eq_false (by omega) | skip
      refine ⟨Nat, fun j => ⟨[(0, .ref 0 0 n), (1, .fz int a), (2, .fz int b), (8, .fz int 0), (9, .fz int i), (10, .fz int ((j : Int) - 1))], [.row int ws]⟩, fun j => Pdq.PtI ltE 0 a b i j ws ∧ (i = j0 ∨ ltE (ws.getD i 0) (ws.getD a 0) = false) ∧ j ≤ j0, fun j => j, j0, ⟨hp, hge, Nat.le_refl _⟩, Ent.sub rfl ?_, hc.out⟩
      (repeat' (first | exact trivial | exact rfl | refine And.intro ?_ ?_))
  clear hp p1 p2 p3
  intro j ⟨hp, hge, hj0⟩
  have hp : Pdq.PtI ltE 0 a b i j ws := hp
  have p1 := hp.1
  have p2 := hp.2.1
  have p3 := hp.2.2.1
  show awp _ _ _ ⟨[(0, .ref 0 0 n), (1, .fz int a), (2, .fz int b), (8, .fz int 0), (9, .fz int i), (10, .fz int ((j : Int) - 1))], [.row int ws]⟩
  by_cases hij : i < j
  · (repeat' (first | exact trivial | exact fun h => h | refine And.intro ?_ ?_ | (intro hb; first | (simp at hb; done) | (simp at hb) | skip) | omega | exact rfl | exact Nat.le_refl _ | (show _ + 1 ≤ 4294967296; omega) | (dsimp only; omega) | (show (_ : Int) ≤ (_ : Int); omega) | (show _ < List.length _; simp only [List.length_set, List.length_append, List.length_take]; omega) | (show wantB _ _ = true; simp; done) | (show wantB _ _ = true; simp; omega) | (show (_ : Bool) = _; simp_all; done) | (exfalso; omega) | refine aRegion_auto (by decide +kernel) ?_ | fail))
    apply exEff
    · refine ⟨fun _ => ?_, fun h => absurd h (by simp; omega)⟩
      (repeat' (first | refine And.intro ?_ ?_ | (show wantB _ _ = true; simp; omega)))
      refine acall_frame0 rfl (less_int _ _ _ _ ?_)
      exact ⟨rfl, rfl⟩
    have hge : ltE (ws.getD i 0) (ws.getD a 0) = false := hge.resolve_left (by omega)
    (repeat' (first | exact trivial | exact fun h => h | refine And.intro ?_ ?_ | (intro hb; first | (simp at hb; done) | (simp at hb) | skip) | omega | exact rfl | exact Nat.le_refl _ | (show _ + 1 ≤ 4294967296; omega) | (dsimp only; omega) | (show (_ : Int) ≤ (_ : Int); omega) | (show _ < List.length _; simp only [List.length_set, List.length_append, List.length_take]; omega) | (show wantB _ _ = true; simp; done) | (show wantB _ _ = true; simp; omega) | (show (_ : Bool) = _; simp_all; done) | (exfalso; omega) | refine aRegion_auto (by decide +kernel) ?_ | fail))
    · have hle : ltE (ws.getD (j - 1) 0) (ws.getD a 0) = false := by
        have := hb.2
        rw [get_q, get_q] at this
        show (!ltI _ _) = _
        rw [this]; rfl
      refine ⟨j - 1, ⟨Pdq.pt_dn hp hij hle, .inr hge, by omega⟩, by show j - 1 < j; omega, Ent.sub rfl ?_⟩
      (repeat' (first | exact trivial | exact rfl | refine And.intro ?_ ?_))
      exact congrArg (AV.fz int) (show (j : Int) - 1 - 1 = ((j - 1 : Nat) : Int) - 1 by omega)
    · rename_i hx
      have hlt : ltE (ws.getD (j - 1) 0) (ws.getD a 0) = true := by
        have := hx (by omega)
        rw [get_q, get_q] at this
        show (!ltI _ _) = _
        rw [this]; rfl
      obtain ⟨hnx, hpx⟩ := Pdq.pt_sw hp (by omega) hij hge hlt
      (repeat' (first | exact trivial | exact fun h => h | refine And.intro ?_ ?_ | (intro hb; first | (simp at hb; done) | (simp at hb) | skip) | omega | exact rfl | exact Nat.le_refl _ | (show _ + 1 ≤ 4294967296; omega) | (dsimp only; omega) | (show (_ : Int) ≤ (_ : Int); omega) | (show _ < List.length _; simp only [List.length_set, List.length_append, List.length_take]; omega) | (show wantB _ _ = true; simp; done) | (show wantB _ _ = true; simp; omega) | (show (_ : Bool) = _; simp_all; done) | (exfalso; omega) | refine aRegion_auto (by decide +kernel) ?_ | fail))
      (apply exEff; focus (repeat' (first | exact ⟨rfl, rfl⟩ | exact trivial | refine And.intro ?_ ?_ | omega | exact Nat.le_refl _ | (show _ + 1 ≤ 4294967296; omega))))
      (repeat' (first | exact trivial | exact fun h => h | refine And.intro ?_ ?_ | (intro hb; first | (simp at hb; done) | (simp at hb) | skip) | omega | exact rfl | exact Nat.le_refl _ | (show _ + 1 ≤ 4294967296; omega) | (dsimp only; omega) | (show (_ : Int) ≤ (_ : Int); omega) | (show _ < List.length _; simp only [List.length_set, List.length_append, List.length_take]; omega) | (show wantB _ _ = true; simp; done) | (show wantB _ _ = true; simp; omega) | (show (_ : Bool) = _; simp_all; done) | (exfalso; omega) | refine aRegion_auto (by decide +kernel) ?_ | fail))
      (apply exEff; focus (repeat' (first | exact ⟨rfl, rfl⟩ | exact trivial | refine And.intro ?_ ?_ | omega | exact Nat.le_refl _ | (show _ + 1 ≤ 4294967296; omega))))
      (repeat' (first | exact trivial | exact fun h => h | refine And.intro ?_ ?_ | (intro hb; first | (simp at hb; done) | (simp at hb) | skip) | omega | exact rfl | exact Nat.le_refl _ | (show _ + 1 ≤ 4294967296; omega) | (dsimp only; omega) | (show (_ : Int) ≤ (_ : Int); omega) | (show _ < List.length _; simp only [List.length_set, List.length_append, List.length_take]; omega) | (show wantB _ _ = true; simp; done) | (show wantB _ _ = true; simp; omega) | (show (_ : Bool) = _; simp_all; done) | (exfalso; omega) | refine aRegion_auto (by decide +kernel) ?_ | fail))
      have eS := set_sw (xs := ws) (x := (i : Int)) (y := (j : Int) - 1) (i := i) (j := j - 1) (u := ws.getD (j - 1) 0) (v := ws.getD i 0) (by omega) (by omega) rfl rfl
      have eG : List.getD ws (0 + Int.toNat ((j : Int) - 1)) int.dft = ws.getD (j - 1) 0 := get_at (by omega)
      have eH : List.getD ws (0 + Int.toNat (i : Int)) int.dft = ws.getD i 0 := get_at (by omega)
      rw [← eG, ← eH] at eS
      refine ⟨(Pdq.sw 0 ws i (j - 1), i + 1, j - 1), ⟨.step hsp ⟨by omega, by omega⟩ ⟨by omega, by omega⟩ (by omega), hpx, ?_⟩, by show j - 1 < j0; omega, Ent.sub (congrArg (fun l => [AO.row int l]) eS) ?_⟩
      · show (Pdq.sw 0 ws i (j - 1)).getD a 0 = _
        rw [Pdq.sw_get 0 ws (by omega) (by omega), if_neg (by omega), if_neg (by omega)]
        exact hwa
      (repeat' (first | exact trivial | exact rfl | refine And.intro ?_ ?_))
      exact congrArg (AV.fz int) (show (j : Int) - 1 - 1 = ((j - 1 : Nat) : Int) - 1 by omega)
  · have hie : j = i := by omega
    subst hie
    (repeat' (first | exact trivial | exact fun h => h | refine And.intro ?_ ?_ | (intro hb; first | (simp at hb; done) | (simp at hb) | skip) | omega | exact rfl | exact Nat.le_refl _ | (show _ + 1 ≤ 4294967296; omega) | (dsimp only; omega) | (show (_ : Int) ≤ (_ : Int); omega) | (show _ < List.length _; simp only [List.length_set, List.length_append, List.length_take]; omega) | (show wantB _ _ = true; simp; done) | (show wantB _ _ = true; simp; omega) | (show (_ : Bool) = _; simp_all; done) | (exfalso; omega) | refine aRegion_auto (by decide +kernel) ?_ | fail))
    apply exEff
    · refine ⟨fun h => absurd h (by simp; omega), fun _ => ⟨rfl, rfl⟩⟩
    (repeat' (first | exact trivial | exact fun h => h | refine And.intro ?_ ?_ | (intro hb; first | (simp at hb; done) | (simp at hb) | skip) | omega | exact rfl | exact Nat.le_refl _ | (show _ + 1 ≤ 4294967296; omega) | (dsimp only; omega) | (show (_ : Int) ≤ (_ : Int); omega) | (show _ < List.length _; simp only [List.length_set, List.length_append, List.length_take]; omega) | (show wantB _ _ = true; simp; done) | (show wantB _ _ = true; simp; omega) | (show (_ : Bool) = _; simp_all; done) | (exfalso; omega) | refine aRegion_auto (by decide +kernel) ?_ | fail))
    all_goals first | exact decide_eq_false (by omega) | skip
    exact ⟨.fz int j, [.row int ws], REnt.refl _ _ _, hK ws j hsp (Pdq.pt_endE ltI_ok hp) hwa⟩
end Go.Proofs.YtepkknjncpbahaaDoor
/-
  Sorting numbers: the partial insertion.
-/
namespace Go.Proofs.YtepkknjncpbahaaDoor
open Go Go.Ab
set_option maxRecDepth 100000
/-- branches that join at a cut with different rows -/
structure Bx1 (I c : List Int → Prop) : Prop where
  out : ∀ ws, I ws → c ws
theorem merge1 (I : List Int → Prop) {c : List Int → Prop} {g : Prop} (f : Bx1 I c → g) (h : ∀ ws, I ws → c ws) : g := f ⟨h⟩
theorem srt_out {a i b : Nat} {xs ys : List Int} (h : Pdq.Srt ltI 0 a i xs) (hs : Pdq.SP 0 i b xs ys) : Pdq.Srt ltI 0 a i ys := fun p q h1 h2 h3 => by
  rw [hs.out (.inl (by omega)), hs.out (.inl h3)]; exact h p q h1 h2 h3
theorem srt_up {a i : Nat} {xs : List Int} (h : Pdq.Srt ltI 0 a i xs) (hi : a < i) (hl : ltI (xs.getD i 0) (xs.getD (i - 1) 0) = false) : Pdq.Srt ltI 0 a (i + 1) xs := fun p q h1 h2 h3 => by
  by_cases e : q = i
  · rw [e]
    by_cases e2 : p = i - 1
    · rw [e2]; exact hl
    · exact Pdq.le_trans ltI_ok (h p (i - 1) h1 (by omega) (by omega)) hl
  · exact h p q h1 h2 (by omega)
set_option maxHeartbeats 8000000 in
theorem partialIns_any (G : List (Nat × Value)) (xs : List Int) (n a b : Nat) (hn : xs.length = n) (hs : n ≤ 1000000000) (hab : a < b) (hbn : b ≤ n) (hpre : Pdq.Pre ltI 0 a b xs) (K : AV → List AO → Prop) (hK : ∀ ys (q : Bool), Pdq.SP 0 a b xs ys → (q = true → Pdq.Srt ltI 0 a b ys) → K (.fz .bool q) [.row int ys]) :
    ACall Tryd.prog G 83 [.ref 0 0 n, .fz int a, .fz int b] [.row int xs] K := by
  refine acall_mk (E := envCut G 133 1 [18]) (envCutOk _ _ _ _) Tryd.func83 rfl rfl rfl rfl rfl ?_
  (repeat' (first | exact trivial | exact fun h => h | refine And.intro ?_ ?_ | (intro hb; first | (simp at hb; done) | (simp at hb) | skip) | omega | exact rfl | exact Nat.le_refl _ | (show _ + 1 ≤ 4294967296; omega) | (dsimp only; omega) | (show (_ : Int) ≤ (_ : Int); omega) | (show _ < List.length _; simp only [List.length_set, List.length_append, List.length_take]; omega) | (show wantB _ _ = true; simp; done) | (show wantB _ _ = true; simp; omega) | (show (_ : Bool) = _; simp_all; done) | (exfalso; omega) | refine aRegion_auto (by decide +kernel) ?_ | fail))
  refine ⟨List Int × Nat × Nat, fun x => ⟨[(0, .ref 0 0 n), (1, .fz int a), (2, .fz int b), (6, .fz .bool false), (7, .fz int x.2.1), (8, .fz int x.2.2)], [.row int x.1]⟩, fun x => a < x.2.1 ∧ x.2.1 ≤ b ∧ x.2.2 ≤ 5 ∧ Pdq.SP 0 a b xs x.1 ∧ Pdq.Srt ltI 0 a x.2.1 x.1, fun x => 5 - x.2.2, (xs, a + 1, 0), ⟨Nat.lt_succ_self _, hab, Nat.zero_le _, .refl _, fun p q h1 h2 h3 => by have h3 : q < a + 1 := h3; omega⟩, Ent.sub rfl ?_, ?_⟩
  · (repeat' (first | exact trivial | exact rfl | refine And.intro ?_ ?_))
  rintro ⟨ys, i0, st⟩ ⟨h1, h2, h3, hsp, hsr⟩
  have h1 : a < i0 := h1
  have h2 : i0 ≤ b := h2
  have h3 : st ≤ 5 := h3
  have hsp : Pdq.SP 0 a b xs ys := hsp
  have hsr : Pdq.Srt ltI 0 a i0 ys := hsr
  have hly := hsp.len
  show awp _ _ _ ⟨[(0, .ref 0 0 n), (1, .fz int a), (2, .fz int b), (6, .fz .bool false), (7, .fz int i0), (8, .fz int st)], [.row int ys]⟩
  by_cases hst : st < 5
  · (repeat' (first | exact trivial | exact fun h => h | refine And.intro ?_ ?_ | (intro hb; first | (simp at hb; done) | (simp at hb) | skip) | omega | exact rfl | exact Nat.le_refl _ | (show _ + 1 ≤ 4294967296; omega) | (dsimp only; omega) | (show (_ : Int) ≤ (_ : Int); omega) | (show _ < List.length _; simp only [List.length_set, List.length_append, List.length_take]; omega) | (show wantB _ _ = true; simp; done) | (show wantB _ _ = true; simp; omega) | (show (_ : Bool) = _; simp_all; done) | (exfalso; omega) | refine aRegion_auto (by decide +kernel) ?_ | fail))
    refine ⟨Nat, fun i => ⟨[(0, .ref 0 0 n), (1, .fz int a), (2, .fz int b), (6, .fz .bool false), (7, .fz int i), (8, .fz int st)], [.row int ys]⟩, fun i => a < i ∧ i ≤ b ∧ Pdq.Srt ltI 0 a i ys, fun i => n - i, i0, ⟨h1, h2, hsr⟩, Ent.sub rfl ?_, ?_⟩
    · (repeat' (first | exact trivial | exact rfl | refine And.intro ?_ ?_))
    clear h1 h2 hsr
    intro i ⟨h1, h2, hsr⟩
    by_cases hib : i < b
    · (repeat' (first | exact trivial | exact fun h => h | refine And.intro ?_ ?_ | (intro hb; first | (simp at hb; done) | (simp at hb) | skip) | omega | exact rfl | exact Nat.le_refl _ | (show _ + 1 ≤ 4294967296; omega) | (dsimp only; omega) | (show (_ : Int) ≤ (_ : Int); omega) | (show _ < List.length _; simp only [List.length_set, List.length_append, List.length_take]; omega) | (show wantB _ _ = true; simp; done) | (show wantB _ _ = true; simp; omega) | (show (_ : Bool) = _; simp_all; done) | (exfalso; omega) | refine aRegion_auto (by decide +kernel) ?_ | fail))
      apply exEff
      · refine ⟨fun _ => ?_, fun h => absurd h (by simp; omega)⟩
        (repeat' (first | refine And.intro ?_ ?_ | (show wantB _ _ = true; simp; omega)))
        refine acall_frame0 rfl (less_int _ _ _ _ ?_)
        exact ⟨rfl, rfl⟩
      (repeat' (first | exact trivial | exact fun h => h | refine And.intro ?_ ?_ | (intro hb; first | (simp at hb; done) | (simp at hb) | skip) | omega | exact rfl | exact Nat.le_refl _ | (show _ + 1 ≤ 4294967296; omega) | (dsimp only; omega) | (show (_ : Int) ≤ (_ : Int); omega) | (show _ < List.length _; simp only [List.length_set, List.length_append, List.length_take]; omega) | (show wantB _ _ = true; simp; done) | (show wantB _ _ = true; simp; omega) | (show (_ : Bool) = _; simp_all; done) | (exfalso; omega) | refine aRegion_auto (by decide +kernel) ?_ | fail))
      · have hl : ltI (ys.getD i 0) (ys.getD (i - 1) 0) = false := by
          have := hb.2
          rw [get_q, get_q] at this
          exact this
        refine ⟨i + 1, ⟨by omega, by omega, srt_up hsr h1 hl⟩, by show n - (i + 1) < n - i; omega, Ent.sub rfl ?_⟩
        (repeat' (first | exact trivial | exact rfl | refine And.intro ?_ ?_))
      · exact ⟨_, _, REnt.refl _ _ _, hK ys false hsp fun h => by cases h⟩
      · obtain ⟨zs, ezs⟩ : ∃ zs, zs = Pdq.sw 0 ys i (i - 1) := ⟨_, rfl⟩
        have hyz : Pdq.SP 0 (i - 1) b ys zs := by rw [ezs]; exact .step (.refl _) ⟨by omega, by omega⟩ ⟨by omega, by omega⟩ (by omega)
        have hspz : Pdq.SP 0 a b xs zs := hsp.trans (hyz.wide (by omega) (Nat.le_refl _) (by omega))
        have hlz := hspz.len
        have hsz : Pdq.Srt ltI 0 a (i - 1) zs := srt_out (fun p q k1 k2 k3 => hsr p q k1 k2 (by omega)) hyz
        have eS := set_sw (xs := ys) (x := (i : Int)) (y := (i : Int) - 1) (i := i) (j := i - 1) (u := ys.getD (i - 1) 0) (v := ys.getD i 0) (by omega) (by omega) rfl rfl
        have eG : List.getD ys (0 + Int.toNat ((i : Int) - 1)) int.dft = ys.getD (i - 1) 0 := get_at (by omega)
        have eH : List.getD ys (0 + Int.toNat (i : Int)) int.dft = ys.getD i 0 := get_at (by omega)
        rw [← eG, ← eH, ← ezs] at eS
        apply merge1 (fun ws => Pdq.SP 0 a b xs ws ∧ Pdq.Srt ltI 0 a i ws)
        · intro hc
          by_cases h2a : a + 2 ≤ i
          · (apply exEff; focus (repeat' (first | exact ⟨rfl, rfl⟩ | exact trivial | refine And.intro ?_ ?_ | omega | exact Nat.le_refl _ | (show _ + 1 ≤ 4294967296; omega))))
            (repeat' (first | exact trivial | exact fun h => h | refine And.intro ?_ ?_ | (intro hb; first | (simp at hb; done) | (simp at hb) | skip) | omega | exact rfl | exact Nat.le_refl _ | (show _ + 1 ≤ 4294967296; omega) | (dsimp only; omega) | (show (_ : Int) ≤ (_ : Int); omega) | (show _ < List.length _; simp only [List.length_set, List.length_append, List.length_take]; omega) | (show wantB _ _ = true; simp; done) | (show wantB _ _ = true; simp; omega) | (show (_ : Bool) = _; simp_all; done) | (exfalso; omega) | refine aRegion_auto (by decide +kernel) ?_ | fail))
            (apply exEff; focus (repeat' (first | exact ⟨rfl, rfl⟩ | exact trivial | refine And.intro ?_ ?_ | omega | exact Nat.le_refl _ | (show _ + 1 ≤ 4294967296; omega))))
            (repeat' (first | exact trivial | exact fun h => h | refine And.intro ?_ ?_ | (intro hb; first | (simp at hb; done) | (simp at hb) | skip) | omega | exact rfl | exact Nat.le_refl _ | (show _ + 1 ≤ 4294967296; omega) | (dsimp only; omega) | (show (_ : Int) ≤ (_ : Int); omega) | (show _ < List.length _; simp only [List.length_set, List.length_append, List.length_take]; omega) | (show wantB _ _ = true; simp; done) | (show wantB _ _ = true; simp; omega) | (show (_ : Bool) = _; simp_all; done) | (exfalso; omega) | refine aRegion_auto (by decide +kernel) ?_ | fail))
            refine ⟨List Int × Nat, fun x => ⟨[(0, .ref 0 0 n), (1, .fz int a), (2, .fz int b), (6, .fz .bool false), (7, .fz int i), (8, .fz int st), (9, .fz int x.2)], [.row int x.1]⟩, fun x => Pdq.SP 0 a b xs x.1 ∧ Pdq.InsI ltI 0 a x.2 (i - 1) x.1, fun x => x.2, (zs, i - 1), ⟨hspz, Pdq.ins_start (by omega) hsz⟩, Ent.sub (congrArg (fun l => [AO.row int l]) eS) ?_, ?_⟩
            · (repeat' (first | exact trivial | exact rfl | refine And.intro ?_ ?_))
              exact congrArg (AV.fz int) (show (i : Int) - 1 = ((i - 1 : Nat) : Int) by omega)
            rintro ⟨ws, j⟩ ⟨hsw, hin⟩
            have hsw : Pdq.SP 0 a b xs ws := hsw
            have hin : Pdq.InsI ltI 0 a j (i - 1) ws := hin
            have hlw := hsw.len
            have j1 := hin.1
            have j2 := hin.2.1
            show awp _ _ _ ⟨[(0, .ref 0 0 n), (1, .fz int a), (2, .fz int b), (6, .fz .bool false), (7, .fz int i), (8, .fz int st), (9, .fz int j)], [.row int ws]⟩
            by_cases hj : 1 ≤ j
            · have hpj : j = a → ltI (ws.getD j 0) (ws.getD (j - 1) 0) = false := fun e => by
                rcases hpre.sp hsw with h0 | h0
                · omega
                · rw [e]; exact h0 a (Nat.le_refl _) hab
              (repeat' (first | exact trivial | exact fun h => h | refine And.intro ?_ ?_ | (intro hb; first | (simp at hb; done) | (simp at hb) | skip) | omega | exact rfl | exact Nat.le_refl _ | (show _ + 1 ≤ 4294967296; omega) | (dsimp only; omega) | (show (_ : Int) ≤ (_ : Int); omega) | (show _ < List.length _; simp only [List.length_set, List.length_append, List.length_take]; omega) | (show wantB _ _ = true; simp; done) | (show wantB _ _ = true; simp; omega) | (show (_ : Bool) = _; simp_all; done) | (exfalso; omega) | refine aRegion_auto (by decide +kernel) ?_ | fail))
              apply exEff
              · (repeat' (first | refine And.intro ?_ ?_ | omega))
                refine acall_frame0 rfl (less_int _ _ _ _ ?_)
                exact ⟨rfl, rfl⟩
              (repeat' (first | exact trivial | exact fun h => h | refine And.intro ?_ ?_ | (intro hb; first | (simp at hb; done) | (simp at hb) | skip) | omega | exact rfl | exact Nat.le_refl _ | (show _ + 1 ≤ 4294967296; omega) | (dsimp only; omega) | (show (_ : Int) ≤ (_ : Int); omega) | (show _ < List.length _; simp only [List.length_set, List.length_append, List.length_take]; omega) | (show wantB _ _ = true; simp; done) | (show wantB _ _ = true; simp; omega) | (show (_ : Bool) = _; simp_all; done) | (exfalso; omega) | refine aRegion_auto (by decide +kernel) ?_ | fail))
              · have hl : ltI (ws.getD j 0) (ws.getD (j - 1) 0) = false := by
                  rw [get_q, get_q] at hb
                  exact hb
                refine ⟨[(0, .ref 0 0 n), (1, .fz int a), (2, .fz int b), (6, .fz .bool false), (7, .fz int i), (8, .fz int st)], [.row int ws], Ent.sub rfl ?_, hc.out ws ⟨hsw, ?_⟩⟩
                · (repeat' (first | exact trivial | exact rfl | refine And.intro ?_ ?_))
                · rw [show i = i - 1 + 1 by omega]
                  refine Pdq.ins_end ltI_ok hin ?_
                  by_cases e : j = a
                  · exact .inl e
                  · exact .inr ⟨by omega, hl⟩
              · have hl : ltI (ws.getD j 0) (ws.getD (j - 1) 0) = true := by
                  rw [get_q, get_q] at hb
                  exact hb
                have haj : a < j := by
                  have : ¬ j = a := fun e => by rw [hpj e] at hl; cases hl
                  omega
                (apply exEff; focus (repeat' (first | exact ⟨rfl, rfl⟩ | exact trivial | refine And.intro ?_ ?_ | omega | exact Nat.le_refl _ | (show _ + 1 ≤ 4294967296; omega))))
                (repeat' (first | exact trivial | exact fun h => h | refine And.intro ?_ ?_ | (intro hb; first | (simp at hb; done) | (simp at hb) | skip) | omega | exact rfl | exact Nat.le_refl _ | (show _ + 1 ≤ 4294967296; omega) | (dsimp only; omega) | (show (_ : Int) ≤ (_ : Int); omega) | (show _ < List.length _; simp only [List.length_set, List.length_append, List.length_take]; omega) | (show wantB _ _ = true; simp; done) | (show wantB _ _ = true; simp; omega) | (show (_ : Bool) = _; simp_all; done) | (exfalso; omega) | refine aRegion_auto (by decide +kernel) ?_ | fail))
                (apply exEff; focus (repeat' (first | exact ⟨rfl, rfl⟩ | exact trivial | refine And.intro ?_ ?_ | omega | exact Nat.le_refl _ | (show _ + 1 ≤ 4294967296; omega))))
                (repeat' (first | exact trivial | exact fun h => h | refine And.intro ?_ ?_ | (intro hb; first | (simp at hb; done) | (simp at hb) | skip) | omega | exact rfl | exact Nat.le_refl _ | (show _ + 1 ≤ 4294967296; omega) | (dsimp only; omega) | (show (_ : Int) ≤ (_ : Int); omega) | (show _ < List.length _; simp only [List.length_set, List.length_append, List.length_take]; omega) | (show wantB _ _ = true; simp; done) | (show wantB _ _ = true; simp; omega) | (show (_ : Bool) = _; simp_all; done) | (exfalso; omega) | refine aRegion_auto (by decide +kernel) ?_ | fail))
                have eS := set_sw (xs := ws) (x := (j : Int)) (y := (j : Int) - 1) (i := j) (j := j - 1) (u := ws.getD (j - 1) 0) (v := ws.getD j 0) (by omega) (by omega) rfl rfl
                have eG : List.getD ws (0 + Int.toNat ((j : Int) - 1)) int.dft = ws.getD (j - 1) 0 := get_at (by omega)
                have eH : List.getD ws (0 + Int.toNat (j : Int)) int.dft = ws.getD j 0 := get_at (by omega)
                rw [← eG, ← eH] at eS
                refine ⟨(Pdq.sw 0 ws j (j - 1), j - 1), ⟨.step hsw ⟨by omega, by omega⟩ ⟨by omega, by omega⟩ (by omega), Pdq.ins_step ltI_ok hin (by omega) haj hl⟩, by show j - 1 < j; omega, Ent.sub (congrArg (fun l => [AO.row int l]) eS) ?_⟩
                (repeat' (first | exact trivial | exact rfl | refine And.intro ?_ ?_))
                all_goals exact congrArg (AV.fz int) (show (j : Int) - 1 = ((j - 1 : Nat) : Int) by omega)
            · (repeat' (first | exact trivial | exact fun h => h | refine And.intro ?_ ?_ | (intro hb; first | (simp at hb; done) | (simp at hb) | skip) | omega | exact rfl | exact Nat.le_refl _ | (show _ + 1 ≤ 4294967296; omega) | (dsimp only; omega) | (show (_ : Int) ≤ (_ : Int); omega) | (show _ < List.length _; simp only [List.length_set, List.length_append, List.length_take]; omega) | (show wantB _ _ = true; simp; done) | (show wantB _ _ = true; simp; omega) | (show (_ : Bool) = _; simp_all; done) | (exfalso; omega) | refine aRegion_auto (by decide +kernel) ?_ | fail))
              refine ⟨[(0, .ref 0 0 n), (1, .fz int a), (2, .fz int b), (6, .fz .bool false), (7, .fz int i), (8, .fz int st)], [.row int ws], Ent.sub rfl ?_, hc.out ws ⟨hsw, by rw [show i = i - 1 + 1 by omega]; exact Pdq.ins_end ltI_ok hin (.inl (by omega))⟩⟩
              (repeat' (first | exact trivial | exact rfl | refine And.intro ?_ ?_))
          · (apply exEff; focus (repeat' (first | exact ⟨rfl, rfl⟩ | exact trivial | refine And.intro ?_ ?_ | omega | exact Nat.le_refl _ | (show _ + 1 ≤ 4294967296; omega))))
            (repeat' (first | exact trivial | exact fun h => h | refine And.intro ?_ ?_ | (intro hb; first | (simp at hb; done) | (simp at hb) | skip) | omega | exact rfl | exact Nat.le_refl _ | (show _ + 1 ≤ 4294967296; omega) | (dsimp only; omega) | (show (_ : Int) ≤ (_ : Int); omega) | (show _ < List.length _; simp only [List.length_set, List.length_append, List.length_take]; omega) | (show wantB _ _ = true; simp; done) | (show wantB _ _ = true; simp; omega) | (show (_ : Bool) = _; simp_all; done) | (exfalso; omega) | refine aRegion_auto (by decide +kernel) ?_ | fail))
            (apply exEff; focus (repeat' (first | exact ⟨rfl, rfl⟩ | exact trivial | refine And.intro ?_ ?_ | omega | exact Nat.le_refl _ | (show _ + 1 ≤ 4294967296; omega))))
            (repeat' (first | exact trivial | exact fun h => h | refine And.intro ?_ ?_ | (intro hb; first | (simp at hb; done) | (simp at hb) | skip) | omega | exact rfl | exact Nat.le_refl _ | (show _ + 1 ≤ 4294967296; omega) | (dsimp only; omega) | (show (_ : Int) ≤ (_ : Int); omega) | (show _ < List.length _; simp only [List.length_set, List.length_append, List.length_take]; omega) | (show wantB _ _ = true; simp; done) | (show wantB _ _ = true; simp; omega) | (show (_ : Bool) = _; simp_all; done) | (exfalso; omega) | refine aRegion_auto (by decide +kernel) ?_ | fail))
            refine ⟨[(0, .ref 0 0 n), (1, .fz int a), (2, .fz int b), (6, .fz .bool false), (7, .fz int i), (8, .fz int st)], [.row int zs], Ent.sub (congrArg (fun l => [AO.row int l]) eS) ?_, hc.out zs ⟨hspz, fun p q k1 k2 k3 => by omega⟩⟩
            (repeat' (first | exact trivial | exact rfl | refine And.intro ?_ ?_))
        clear hsr hsz eS eG eH hspz hyz hlz ezs zs
        intro ws ⟨hsw, hsr⟩
        have hlw := hsw.len
        by_cases hbi : i + 2 ≤ b
        · (repeat' (first | exact trivial | exact fun h => h | refine And.intro ?_ ?_ | (intro hb; first | (simp at hb; done) | (simp at hb) | skip) | omega | exact rfl | exact Nat.le_refl _ | (show _ + 1 ≤ 4294967296; omega) | (dsimp only; omega) | (show (_ : Int) ≤ (_ : Int); omega) | (show _ < List.length _; simp only [List.length_set, List.length_append, List.length_take]; omega) | (show wantB _ _ = true; simp; done) | (show wantB _ _ = true; simp; omega) | (show (_ : Bool) = _; simp_all; done) | (exfalso; omega) | refine aRegion_auto (by decide +kernel) ?_ | fail))
          refine ⟨List Int × Nat, fun x => ⟨[(0, .ref 0 0 n), (1, .fz int a), (2, .fz int b), (6, .fz .bool false), (7, .fz int i), (8, .fz int st), (10, .fz int x.2)], [.row int x.1]⟩, fun x => Pdq.SP 0 a b xs x.1 ∧ Pdq.Srt ltI 0 a i x.1 ∧ i + 1 ≤ x.2 ∧ x.2 ≤ b, fun x => b - x.2, (ws, i + 1), ⟨hsw, hsr, Nat.le_refl _, by show i + 1 ≤ b; omega⟩, Ent.sub rfl ?_, ?_⟩
          · (repeat' (first | exact trivial | exact rfl | refine And.intro ?_ ?_))
          clear hsw hsr hlw ws
          rintro ⟨ws, j⟩ ⟨hsw, hsr, j1, j2⟩
          have hsw : Pdq.SP 0 a b xs ws := hsw
          have hsr : Pdq.Srt ltI 0 a i ws := hsr
          have j1 : i + 1 ≤ j := j1
          have j2 : j ≤ b := j2
          have hlw := hsw.len
          show awp _ _ _ ⟨[(0, .ref 0 0 n), (1, .fz int a), (2, .fz int b), (6, .fz .bool false), (7, .fz int i), (8, .fz int st), (10, .fz int j)], [.row int ws]⟩
          by_cases hj : j < b
          · (repeat' (first | exact trivial | exact fun h => h | refine And.intro ?_ ?_ | (intro hb; first | (simp at hb; done) | (simp at hb) | skip) | omega | exact rfl | exact Nat.le_refl _ | (show _ + 1 ≤ 4294967296; omega) | (dsimp only; omega) | (show (_ : Int) ≤ (_ : Int); omega) | (show _ < List.length _; simp only [List.length_set, List.length_append, List.length_take]; omega) | (show wantB _ _ = true; simp; done) | (show wantB _ _ = true; simp; omega) | (show (_ : Bool) = _; simp_all; done) | (exfalso; omega) | refine aRegion_auto (by decide +kernel) ?_ | fail))
            apply exEff
            · (repeat' (first | refine And.intro ?_ ?_ | omega))
              refine acall_frame0 rfl (less_int _ _ _ _ ?_)
              exact ⟨rfl, rfl⟩
            (repeat' (first | exact trivial | exact fun h => h | refine And.intro ?_ ?_ | (intro hb; first | (simp at hb; done) | (simp at hb) | skip) | omega | exact rfl | exact Nat.le_refl _ | (show _ + 1 ≤ 4294967296; omega) | (dsimp only; omega) | (show (_ : Int) ≤ (_ : Int); omega) | (show _ < List.length _; simp only [List.length_set, List.length_append, List.length_take]; omega) | (show wantB _ _ = true; simp; done) | (show wantB _ _ = true; simp; omega) | (show (_ : Bool) = _; simp_all; done) | (exfalso; omega) | refine aRegion_auto (by decide +kernel) ?_ | fail))
            · refine ⟨(ws, i, st + 1), ⟨h1, h2, by show st + 1 ≤ 5; omega, hsw, hsr⟩, by show 5 - (st + 1) < 5 - st; omega, Ent.sub rfl ?_⟩
              (repeat' (first | exact trivial | exact rfl | refine And.intro ?_ ?_))
            · have hz : Pdq.SP 0 i b ws (Pdq.sw 0 ws j (j - 1)) := .step (.refl _) ⟨by omega, by omega⟩ ⟨by omega, by omega⟩ (by omega)
              (apply exEff; focus (repeat' (first | exact ⟨rfl, rfl⟩ | exact trivial | refine And.intro ?_ ?_ | omega | exact Nat.le_refl _ | (show _ + 1 ≤ 4294967296; omega))))
              (repeat' (first | exact trivial | exact fun h => h | refine And.intro ?_ ?_ | (intro hb; first | (simp at hb; done) | (simp at hb) | skip) | omega | exact rfl | exact Nat.le_refl _ | (show _ + 1 ≤ 4294967296; omega) | (dsimp only; omega) | (show (_ : Int) ≤ (_ : Int); omega) | (show _ < List.length _; simp only [List.length_set, List.length_append, List.length_take]; omega) | (show wantB _ _ = true; simp; done) | (show wantB _ _ = true; simp; omega) | (show (_ : Bool) = _; simp_all; done) | (exfalso; omega) | refine aRegion_auto (by decide +kernel) ?_ | fail))
              (apply exEff; focus (repeat' (first | exact ⟨rfl, rfl⟩ | exact trivial | refine And.intro ?_ ?_ | omega | exact Nat.le_refl _ | (show _ + 1 ≤ 4294967296; omega))))
              (repeat' (first | exact trivial | exact fun h => h | refine And.intro ?_ ?_ | (intro hb; first | (simp at hb; done) | (simp at hb) | skip) | omega | exact rfl | exact Nat.le_refl _ | (show _ + 1 ≤ 4294967296; omega) | (dsimp only; omega) | (show (_ : Int) ≤ (_ : Int); omega) | (show _ < List.length _; simp only [List.length_set, List.length_append, List.length_take]; omega) | (show wantB _ _ = true; simp; done) | (show wantB _ _ = true; simp; omega) | (show (_ : Bool) = _; simp_all; done) | (exfalso; omega) | refine aRegion_auto (by decide +kernel) ?_ | fail))
              have eS := set_sw (xs := ws) (x := (j : Int)) (y := (j : Int) - 1) (i := j) (j := j - 1) (u := ws.getD (j - 1) 0) (v := ws.getD j 0) (by omega) (by omega) rfl rfl
              have eG : List.getD ws (0 + Int.toNat ((j : Int) - 1)) int.dft = ws.getD (j - 1) 0 := get_at (by omega)
              have eH : List.getD ws (0 + Int.toNat (j : Int)) int.dft = ws.getD j 0 := get_at (by omega)
              rw [← eG, ← eH] at eS
              refine ⟨(Pdq.sw 0 ws j (j - 1), j + 1), ⟨.step hsw ⟨by omega, by omega⟩ ⟨by omega, by omega⟩ (by omega), srt_out hsr hz, by show i + 1 ≤ j + 1; omega, by show j + 1 ≤ b; omega⟩, by show b - (j + 1) < b - j; omega, Ent.sub (congrArg (fun l => [AO.row int l]) eS) ?_⟩
              (repeat' (first | exact trivial | exact rfl | refine And.intro ?_ ?_))
          · (repeat' (first | exact trivial | exact fun h => h | refine And.intro ?_ ?_ | (intro hb; first | (simp at hb; done) | (simp at hb) | skip) | omega | exact rfl | exact Nat.le_refl _ | (show _ + 1 ≤ 4294967296; omega) | (dsimp only; omega) | (show (_ : Int) ≤ (_ : Int); omega) | (show _ < List.length _; simp only [List.length_set, List.length_append, List.length_take]; omega) | (show wantB _ _ = true; simp; done) | (show wantB _ _ = true; simp; omega) | (show (_ : Bool) = _; simp_all; done) | (exfalso; omega) | refine aRegion_auto (by decide +kernel) ?_ | fail))
            refine ⟨(ws, i, st + 1), ⟨h1, h2, by show st + 1 ≤ 5; omega, hsw, hsr⟩, by show 5 - (st + 1) < 5 - st; omega, Ent.sub rfl ?_⟩
            (repeat' (first | exact trivial | exact rfl | refine And.intro ?_ ?_))
        · (repeat' (first | exact trivial | exact fun h => h | refine And.intro ?_ ?_ | (intro hb; first | (simp at hb; done) | (simp at hb) | skip) | omega | exact rfl | exact Nat.le_refl _ | (show _ + 1 ≤ 4294967296; omega) | (dsimp only; omega) | (show (_ : Int) ≤ (_ : Int); omega) | (show _ < List.length _; simp only [List.length_set, List.length_append, List.length_take]; omega) | (show wantB _ _ = true; simp; done) | (show wantB _ _ = true; simp; omega) | (show (_ : Bool) = _; simp_all; done) | (exfalso; omega) | refine aRegion_auto (by decide +kernel) ?_ | fail))
          refine ⟨(ws, i, st + 1), ⟨h1, h2, by show st + 1 ≤ 5; omega, hsw, hsr⟩, by show 5 - (st + 1) < 5 - st; omega, Ent.sub rfl ?_⟩
          (repeat' (first | exact trivial | exact rfl | refine And.intro ?_ ?_))
    · have hie : i = b := by omega
      subst hie
      (repeat' (first | exact trivial | exact fun h => h | refine And.intro ?_ ?_ | (intro hb; first | (simp at hb; done) | (simp at hb) | skip) | omega | exact rfl | exact Nat.le_refl _ | (show _ + 1 ≤ 4294967296; omega) | (dsimp only; omega) | (show (_ : Int) ≤ (_ : Int); omega) | (show _ < List.length _; simp only [List.length_set, List.length_append, List.length_take]; omega) | (show wantB _ _ = true; simp; done) | (show wantB _ _ = true; simp; omega) | (show (_ : Bool) = _; simp_all; done) | (exfalso; omega) | refine aRegion_auto (by decide +kernel) ?_ | fail))
      apply exEff
      · refine ⟨fun h => absurd h (by simp), fun _ => ⟨rfl, rfl⟩⟩
      (repeat' (first | exact trivial | exact fun h => h | refine And.intro ?_ ?_ | (intro hb; first | (simp at hb; done) | (simp at hb) | skip) | omega | exact rfl | exact Nat.le_refl _ | (show _ + 1 ≤ 4294967296; omega) | (dsimp only; omega) | (show (_ : Int) ≤ (_ : Int); omega) | (show _ < List.length _; simp only [List.length_set, List.length_append, List.length_take]; omega) | (show wantB _ _ = true; simp; done) | (show wantB _ _ = true; simp; omega) | (show (_ : Bool) = _; simp_all; done) | (exfalso; omega) | refine aRegion_auto (by decide +kernel) ?_ | fail))
      all_goals first | exact decide_eq_false (by omega) | skip
      exact ⟨_, _, REnt.refl _ _ _, hK ys true hsp fun _ => hsr⟩
  · (repeat' (first | exact trivial | exact fun h => h | refine And.intro ?_ ?_ | (intro hb; first | (simp at hb; done) | (simp at hb) | skip) | omega | exact rfl | exact Nat.le_refl _ | (show _ + 1 ≤ 4294967296; omega) | (dsimp only; omega) | (show (_ : Int) ≤ (_ : Int); omega) | (show _ < List.length _; simp only [List.length_set, List.length_append, List.length_take]; omega) | (show wantB _ _ = true; simp; done) | (show wantB _ _ = true; simp; omega) | (show (_ : Bool) = _; simp_all; done) | (exfalso; omega) | refine aRegion_auto (by decide +kernel) ?_ | fail))
    exact ⟨_, _, REnt.refl _ _ _, hK ys false hsp fun h => by cases h⟩
end Go.Proofs.YtepkknjncpbahaaDoor
/-
  Sorting numbers: what breaks patterns.
-/
namespace Go.Proofs.YtepkknjncpbahaaDoor
open Go Go.Ab
set_option maxRecDepth 100000
theorem u64_wrap (n : Int) : 0 ≤ IntKind.wrap .u64 n ∧ IntKind.wrap .u64 n < 18446744073709551616 := by
  have e : IntKind.wrap .u64 n = n % 18446744073709551616 := by
    unfold IntKind.wrap
    simp [IntKind.signed, IntKind.bits]
  rw [e]; omega
theorem u64_xor (a b : Int) : 0 ≤ bitI .xor .u64 a b ∧ bitI .xor .u64 a b < 18446744073709551616 := u64_wrap _
theorem next_any (G : List (Nat × Value)) (x : Int) (h0 : 0 ≤ x) (h1 : x < 18446744073709551616) (K : AV → List AO → Prop) (hK : ∀ y : Int, 0 ≤ y → y < 18446744073709551616 → K (.fz (.int .u64) y) [.box [.fz (.int .u64) y]]) :
    ACall Tryd.prog G 91 [.ptr 0 0] [.box [.fz (.int .u64) x]] K := by
  refine acall_mk (E := envAt G 33 1) (envOk _ _ _) Tryd.func91 rfl rfl rfl rfl rfl ?_
  (repeat' (first | exact trivial | exact fun h => h | refine And.intro ?_ ?_ | (intro hb; first | (simp at hb; done) | (simp at hb) | skip) | omega | exact rfl | exact Nat.le_refl _ | (show _ + 1 ≤ 4294967296; omega) | (dsimp only; omega) | (show (_ : Int) ≤ (_ : Int); omega) | (show _ < List.length _; simp only [List.length_set, List.length_append, List.length_take]; omega) | (show wantB _ _ = true; simp; done) | (show wantB _ _ = true; simp; omega) | (show (_ : Bool) = _; simp_all; done) | (exfalso; omega) | refine aRegion_auto (by decide +kernel) ?_ | fail))
  (apply exEff; focus (repeat' (first | exact ⟨rfl, rfl⟩ | exact trivial | refine And.intro ?_ ?_ | omega | exact Nat.le_refl _ | (show _ + 1 ≤ 4294967296; omega))))
  (repeat' (first | exact trivial | exact fun h => h | refine And.intro ?_ ?_ | (intro hb; first | (simp at hb; done) | (simp at hb) | skip) | omega | exact rfl | exact Nat.le_refl _ | (show _ + 1 ≤ 4294967296; omega) | (dsimp only; omega) | (show (_ : Int) ≤ (_ : Int); omega) | (show _ < List.length _; simp only [List.length_set, List.length_append, List.length_take]; omega) | (show wantB _ _ = true; simp; done) | (show wantB _ _ = true; simp; omega) | (show (_ : Bool) = _; simp_all; done) | (exfalso; omega) | refine aRegion_auto (by decide +kernel) ?_ | fail))
  (apply exEff; focus (repeat' (first | exact ⟨rfl, rfl⟩ | exact trivial | refine And.intro ?_ ?_ | omega | exact Nat.le_refl _ | (show _ + 1 ≤ 4294967296; omega))))
  (repeat' (first | exact trivial | exact fun h => h | refine And.intro ?_ ?_ | (intro hb; first | (simp at hb; done) | (simp at hb) | skip) | omega | exact rfl | exact Nat.le_refl _ | (show _ + 1 ≤ 4294967296; omega) | (dsimp only; omega) | (show (_ : Int) ≤ (_ : Int); omega) | (show _ < List.length _; simp only [List.length_set, List.length_append, List.length_take]; omega) | (show wantB _ _ = true; simp; done) | (show wantB _ _ = true; simp; omega) | (show (_ : Bool) = _; simp_all; done) | (exfalso; omega) | refine aRegion_auto (by decide +kernel) ?_ | fail))
  (apply exEff; focus (repeat' (first | exact ⟨rfl, rfl⟩ | exact trivial | refine And.intro ?_ ?_ | omega | exact Nat.le_refl _ | (show _ + 1 ≤ 4294967296; omega))))
  (repeat' (first | exact trivial | exact fun h => h | refine And.intro ?_ ?_ | (intro hb; first | (simp at hb; done) | (simp at hb) | skip) | omega | exact rfl | exact Nat.le_refl _ | (show _ + 1 ≤ 4294967296; omega) | (dsimp only; omega) | (show (_ : Int) ≤ (_ : Int); omega) | (show _ < List.length _; simp only [List.length_set, List.length_append, List.length_take]; omega) | (show wantB _ _ = true; simp; done) | (show wantB _ _ = true; simp; omega) | (show (_ : Bool) = _; simp_all; done) | (exfalso; omega) | refine aRegion_auto (by decide +kernel) ?_ | fail))
  exact ⟨_, _, REnt.refl _ _ _, hK _ (u64_xor _ _).1 (u64_xor _ _).2⟩
end Go.Proofs.YtepkknjncpbahaaDoor
/-
  Sorting numbers: the length of a number in bits.
-/
namespace Go.Proofs.YtepkknjncpbahaaDoor
open Go Go.Ab
set_option maxRecDepth 100000
def bl (x : Nat) : Nat := if x = 0 then 0 else x.log2 + 1
theorem len64_any (G : List (Nat × Value)) (x : Nat) (h : x < 256) (K : AV → List AO → Prop) (hK : K (.fz int (bl x : Nat)) []) :
    ACall Tryd.prog G 88 [.fz (.int .u64) (x : Int)] [] K := by
  refine acall_mk (E := envAt G 25 0) (envOk _ _ _) Tryd.func88 rfl rfl rfl rfl rfl ?_
  (repeat' (first | exact trivial | exact fun h => h | refine And.intro ?_ ?_ | (intro hb; first | (simp at hb; done) | (simp at hb) | skip) | omega | exact rfl | exact Nat.le_refl _ | (show _ + 1 ≤ 4294967296; omega) | (dsimp only; omega) | (show (_ : Int) ≤ (_ : Int); omega) | (show _ < List.length _; simp only [List.length_set, List.length_append, List.length_take]; omega) | (show wantB _ _ = true; simp; done) | (show wantB _ _ = true; simp; omega) | (show (_ : Bool) = _; simp_all; done) | (exfalso; omega) | refine aRegion_auto (by decide +kernel) ?_ | refine ⟨_, _, REnt.drop ⟨rfl, rfl⟩, ?_⟩ | fail))
  rotate_right
  · refine (congrArg (fun z => K (.fz int z) []) ?_).mpr hK
    clear hK
    revert x
    decide +kernel
  all_goals clear hK
  all_goals revert x
  all_goals decide +kernel
theorem bitsLen_any (G : List (Nat × Value)) (x : Nat) (h : x < 256) (K : AV → List AO → Prop) (hK : K (.fz int (bl x : Nat)) []) :
    ACall Tryd.prog G 75 [.fz (.int .u64) (x : Int)] [] K := by
  refine acall_mk (E := envAt G 8 0) (envOk _ _ _) Tryd.func75 rfl rfl rfl rfl rfl ?_
  (repeat' (first | exact trivial | exact fun h => h | refine And.intro ?_ ?_ | (intro hb; first | (simp at hb; done) | (simp at hb) | skip) | omega | exact rfl | exact Nat.le_refl _ | (show _ + 1 ≤ 4294967296; omega) | (dsimp only; omega) | (show (_ : Int) ≤ (_ : Int); omega) | (show _ < List.length _; simp only [List.length_set, List.length_append, List.length_take]; omega) | (show wantB _ _ = true; simp; done) | (show wantB _ _ = true; simp; omega) | (show (_ : Bool) = _; simp_all; done) | (exfalso; omega) | refine aRegion_auto (by decide +kernel) ?_ | refine ⟨_, _, REnt.drop ⟨rfl, rfl⟩, ?_⟩ | fail))
  refine acall_frame0 rfl (len64_any _ x h _ ?_)
  (repeat' (first | exact trivial | exact fun h => h | refine And.intro ?_ ?_ | (intro hb; first | (simp at hb; done) | (simp at hb) | skip) | omega | exact rfl | exact Nat.le_refl _ | (show _ + 1 ≤ 4294967296; omega) | (dsimp only; omega) | (show (_ : Int) ≤ (_ : Int); omega) | (show _ < List.length _; simp only [List.length_set, List.length_append, List.length_take]; omega) | (show wantB _ _ = true; simp; done) | (show wantB _ _ = true; simp; omega) | (show (_ : Bool) = _; simp_all; done) | (exfalso; omega) | refine aRegion_auto (by decide +kernel) ?_ | refine ⟨_, _, REnt.drop ⟨rfl, rfl⟩, ?_⟩ | fail))
  exact hK
theorem nextPow_any (G : List (Nat × Value)) (x : Nat) (h : x < 256) (K : AV → List AO → Prop) (hK : K (.fz (.int .u64) ((2 ^ bl x : Nat) : Int)) []) :
    ACall Tryd.prog G 90 [.fz int (x : Int)] [] K := by
  have hw : IntKind.wrap .u64 (x : Int) = x := by
    clear hK
    revert x
    decide +kernel
  refine acall_mk (E := envAt G 7 0) (envOk _ _ _) Tryd.func90 rfl rfl rfl rfl rfl ?_
  (repeat' (first | exact trivial | exact fun h => h | refine And.intro ?_ ?_ | (intro hb; first | (simp at hb; done) | (simp at hb) | skip) | omega | exact rfl | exact Nat.le_refl _ | (show _ + 1 ≤ 4294967296; omega) | (dsimp only; omega) | (show (_ : Int) ≤ (_ : Int); omega) | (show _ < List.length _; simp only [List.length_set, List.length_append, List.length_take]; omega) | (show wantB _ _ = true; simp; done) | (show wantB _ _ = true; simp; omega) | (show (_ : Bool) = _; simp_all; done) | (exfalso; omega) | refine aRegion_auto (by decide +kernel) ?_ | refine ⟨_, _, REnt.drop ⟨rfl, rfl⟩, ?_⟩ | fail))
  refine acall_frame0 rfl (acall_arg (bitsLen_any _ x h _ ?_) (congrArg (fun z => [AV.fz (.int .u64) z]) hw.symm))
  (repeat' (first | exact trivial | exact fun h => h | refine And.intro ?_ ?_ | (intro hb; first | (simp at hb; done) | (simp at hb) | skip) | omega | exact rfl | exact Nat.le_refl _ | (show _ + 1 ≤ 4294967296; omega) | (dsimp only; omega) | (show (_ : Int) ≤ (_ : Int); omega) | (show _ < List.length _; simp only [List.length_set, List.length_append, List.length_take]; omega) | (show wantB _ _ = true; simp; done) | (show wantB _ _ = true; simp; omega) | (show (_ : Bool) = _; simp_all; done) | (exfalso; omega) | refine aRegion_auto (by decide +kernel) ?_ | refine ⟨_, _, REnt.drop ⟨rfl, rfl⟩, ?_⟩ | fail))
  all_goals first | exact Int.natCast_nonneg _ | skip
  refine (congrArg (fun z => K (.fz (.int .u64) z) []) ?_).mpr hK
  clear hw hK
  revert x
  decide +kernel
end Go.Proofs.YtepkknjncpbahaaDoor
/-
  Sorting numbers: what breaks patterns.
-/
namespace Go.Proofs.YtepkknjncpbahaaDoor
open Go Go.Ab
set_option maxRecDepth 100000
theorem u64_and (y m : Int) (h0 : 0 ≤ m) (h1 : m < 18446744073709551616) : 0 ≤ bitI .and .u64 y m ∧ bitI .and .u64 y m ≤ m := by
  have h : (((BitVec.ofInt 64 y &&& BitVec.ofInt 64 m).toNat : Nat) : Int) ≤ m := by
    rw [BitVec.toNat_and]
    have h := Nat.and_le_right (n := (BitVec.ofInt 64 y).toNat) (m := (BitVec.ofInt 64 m).toNat)
    rw [BitVec.toNat_ofInt] at h
    have e : (m % ((2 ^ 64 : Nat) : Int)).toNat = m.toNat := by
      congr 1
      exact Int.emod_eq_of_lt h0 (by simpa using h1)
    rw [BitVec.toNat_ofInt] at *
    rw [BitVec.toNat_ofInt] at *
    omega
  show 0 ≤ IntKind.wrap .u64 (((BitVec.ofInt 64 y &&& BitVec.ofInt 64 m).toNat : Nat) : Int) ∧ IntKind.wrap .u64 (((BitVec.ofInt 64 y &&& BitVec.ofInt 64 m).toNat : Nat) : Int) ≤ m
  have e : ∀ z : Int, IntKind.wrap .u64 z = z % 18446744073709551616 := fun z => by
    unfold IntKind.wrap
    simp [IntKind.signed, IntKind.bits]
  rw [e]
  omega
theorem u64_id {z : Int} (h0 : 0 ≤ z) (h1 : z < 18446744073709551616) : IntKind.wrap .u64 z = z := by
  have e : ∀ z : Int, IntKind.wrap .u64 z = z % 18446744073709551616 := fun z => by
    unfold IntKind.wrap
    simp [IntKind.signed, IntKind.bits]
  rw [e]; omega
theorem bl_le : ∀ l : Nat, l < 256 → 8 ≤ l → 8 ≤ 2 ^ bl l ∧ 2 ^ bl l ≤ 2 * l := by decide +kernel
set_option maxHeartbeats 8000000 in
theorem breakPat_any (G : List (Nat × Value)) (xs : List Int) (n a b : Nat) (hn : xs.length = n) (hs : n ≤ 128) (hab : a ≤ b) (hbn : b ≤ n) (K : AV → List AO → Prop) (hK : ∀ ys, Pdq.SP 0 a b xs ys → K (.tup []) [.row int ys]) :
    ACall Tryd.prog G 80 [.ref 0 0 n, .fz int a, .fz int b] [.row int xs] K := by
  obtain ⟨q, hq⟩ : ∃ q, q = (b - a) / 4 := ⟨_, rfl⟩
  have hqd : Int.tdiv ((b : Int) - (a : Int)) 4 = (q : Int) := by rw [Int.tdiv_eq_ediv_of_nonneg (by omega)]; omega
  refine acall_mk (E := envAt G 65 1) (envOk _ _ _) Tryd.func80 rfl rfl rfl rfl rfl ?_
  by_cases h8 : a + 8 ≤ b
  · (repeat' (first | exact trivial | exact fun h => h | refine And.intro ?_ ?_ | (intro hb; first | (simp at hb; done) | (simp at hb) | skip) | omega | exact rfl | exact Nat.le_refl _ | (show _ + 1 ≤ 4294967296; omega) | (dsimp only; omega) | (show (_ : Int) ≤ (_ : Int); omega) | (show _ < List.length _; simp only [List.length_set, List.length_append, List.length_take]; omega) | (show wantB _ _ = true; simp; done) | (show wantB _ _ = true; simp; omega) | (show (_ : Bool) = _; simp_all; done) | (exfalso; omega) | refine aRegion_auto (by decide +kernel) ?_ | fail))
    refine acall_frame0 rfl (acall_arg (nextPow_any _ (b - a) (by omega) _ ?_) (congrArg (fun z => [AV.fz int z]) (show ((b - a : Nat) : Int) = (b : Int) - a by omega)))
    (repeat' (first | exact trivial | exact fun h => h | refine And.intro ?_ ?_ | (intro hb; first | (simp at hb; done) | (simp at hb) | skip) | omega | exact rfl | exact Nat.le_refl _ | (show _ + 1 ≤ 4294967296; omega) | (dsimp only; omega) | (show (_ : Int) ≤ (_ : Int); omega) | (show _ < List.length _; simp only [List.length_set, List.length_append, List.length_take]; omega) | (show wantB _ _ = true; simp; done) | (show wantB _ _ = true; simp; omega) | (show (_ : Bool) = _; simp_all; done) | (exfalso; omega) | refine aRegion_auto (by decide +kernel) ?_ | fail))
    refine ⟨List Int × Int × Nat, fun x => ⟨[(0, .ref 0 0 n), (1, .fz int a), (2, .fz int b), (6, .fz int ((b : Int) - a)), (7, .ptr 1 0), (8, .fz (.int .u64) ((2 ^ bl (b - a) : Nat) : Int)), (9, .fz int ((a : Int) + 2 * (q : Int) - 1 + x.2.2))], [.row int x.1, .box [.fz (.int .u64) x.2.1]]⟩, fun x => x.2.2 ≤ 3 ∧ Pdq.SP 0 a b xs x.1 ∧ 0 ≤ x.2.1 ∧ x.2.1 < 18446744073709551616, fun x => 3 - x.2.2, (xs, IntKind.wrap .u64 ((b : Int) - a), 0), ⟨Nat.zero_le _, .refl _, (u64_wrap _).1, (u64_wrap _).2⟩, Ent.sub rfl ?_, ?_⟩
    · (repeat' (first | exact trivial | exact rfl | refine And.intro ?_ ?_))
      all_goals exact congrArg (AV.fz int) (show (a : Int) + Int.tdiv ((b : Int) - (a : Int)) 4 * 2 - 1 = (a : Int) + 2 * (q : Int) - 1 + ((0 : Nat) : Int) by rw [hqd]; omega)
    obtain ⟨L, hL⟩ : ∃ L, L = b - a := ⟨_, rfl⟩
    obtain ⟨mo, hmo⟩ : ∃ mo, mo = 2 ^ bl (b - a) := ⟨_, rfl⟩
    have hm2 := bl_le (b - a) (by omega) (by omega)
    rw [← hmo] at hm2 ⊢
    rintro ⟨ys, y, k⟩ ⟨h3, hsp, y0, y1⟩
    have h3 : k ≤ 3 := h3
    have hsp : Pdq.SP 0 a b xs ys := hsp
    have y0 : 0 ≤ y := y0
    have y1 : y < 18446744073709551616 := y1
    have hly := hsp.len
    show awp _ _ _ ⟨[(0, .ref 0 0 n), (1, .fz int a), (2, .fz int b), (6, .fz int ((b : Int) - a)), (7, .ptr 1 0), (8, .fz (.int .u64) (mo : Int)), (9, .fz int ((a : Int) + 2 * (q : Int) - 1 + k))], [.row int ys, .box [.fz (.int .u64) y]]⟩
    by_cases hk : k < 3
    · (repeat' (first | exact trivial | exact fun h => h | refine And.intro ?_ ?_ | (intro hb; first | (simp at hb; done) | (simp at hb) | skip) | omega | exact rfl | exact Nat.le_refl _ | (show _ + 1 ≤ 4294967296; omega) | (dsimp only; omega) | (show (_ : Int) ≤ (_ : Int); omega) | (show _ < List.length _; simp only [List.length_set, List.length_append, List.length_take]; omega) | (show wantB _ _ = true; simp; done) | (show wantB _ _ = true; simp; omega) | (show (_ : Bool) = _; simp_all; done) | (exfalso; omega) | refine aRegion_auto (by decide +kernel) ?_ | fail))
      refine acall_frame [1] [.box [.fz (.int .u64) y]] [.ptr 0 0] rfl (by repeat' (first | exact rfl | exact trivial | refine And.intro ?_ ?_)) ⟨rfl, rfl⟩ rfl (next_any _ y y0 y1 _ fun y' z0 z1 => ?_)
      have hwr : IntKind.wrap .u64 ((mo : Int) - 1) = (mo : Int) - 1 := u64_id (by omega) (by omega)
      have zb : 0 ≤ bitI .and .u64 y' (IntKind.wrap .u64 ((mo : Int) - 1)) ∧ bitI .and .u64 y' (IntKind.wrap .u64 ((mo : Int) - 1)) ≤ (mo : Int) - 1 := by
        rw [hwr]; exact u64_and y' _ (by omega) (by omega)
      obtain ⟨o, ho⟩ : ∃ o : Nat, (o : Int) = bitI .and .u64 y' (IntKind.wrap .u64 ((mo : Int) - 1)) := ⟨(bitI .and .u64 y' (IntKind.wrap .u64 ((mo : Int) - 1))).toNat, by omega⟩
      by_cases hol : b ≤ a + o
      · (repeat' (first | exact trivial | exact fun h => h | refine And.intro ?_ ?_ | (intro hb; first | (simp at hb; done) | (simp at hb) | skip) | omega | exact rfl | exact Nat.le_refl _ | (show _ + 1 ≤ 4294967296; omega) | (dsimp only; omega) | (show (_ : Int) ≤ (_ : Int); omega) | (show _ < List.length _; simp only [List.length_set, List.length_append, List.length_take]; omega) | (show wantB _ _ = true; simp; done) | (show wantB _ _ = true; simp; omega) | (show (_ : Bool) = _; simp_all; done) | (exfalso; omega) | refine aRegion_auto (by decide +kernel) ?_ | fail))
        (apply exEff; focus (repeat' (first | exact ⟨rfl, rfl⟩ | exact trivial | refine And.intro ?_ ?_ | omega | exact Nat.le_refl _ | (show _ + 1 ≤ 4294967296; omega))))
        (repeat' (first | exact trivial | exact fun h => h | refine And.intro ?_ ?_ | (intro hb; first | (simp at hb; done) | (simp at hb) | skip) | omega | exact rfl | exact Nat.le_refl _ | (show _ + 1 ≤ 4294967296; omega) | (dsimp only; omega) | (show (_ : Int) ≤ (_ : Int); omega) | (show _ < List.length _; simp only [List.length_set, List.length_append, List.length_take]; omega) | (show wantB _ _ = true; simp; done) | (show wantB _ _ = true; simp; omega) | (show (_ : Bool) = _; simp_all; done) | (exfalso; omega) | refine aRegion_auto (by decide +kernel) ?_ | fail))
        (apply exEff; focus (repeat' (first | exact ⟨rfl, rfl⟩ | exact trivial | refine And.intro ?_ ?_ | omega | exact Nat.le_refl _ | (show _ + 1 ≤ 4294967296; omega))))
        (repeat' (first | exact trivial | exact fun h => h | refine And.intro ?_ ?_ | (intro hb; first | (simp at hb; done) | (simp at hb) | skip) | omega | exact rfl | exact Nat.le_refl _ | (show _ + 1 ≤ 4294967296; omega) | (dsimp only; omega) | (show (_ : Int) ≤ (_ : Int); omega) | (show _ < List.length _; simp only [List.length_set, List.length_append, List.length_take]; omega) | (show wantB _ _ = true; simp; done) | (show wantB _ _ = true; simp; omega) | (show (_ : Bool) = _; simp_all; done) | (exfalso; omega) | refine aRegion_auto (by decide +kernel) ?_ | fail))
        refine ⟨(Pdq.sw 0 ys (a + 2 * q - 1 + k) (a + (o - (b - a))), y', k + 1), ⟨by show k + 1 ≤ 3; omega, .step hsp ⟨by omega, by omega⟩ ⟨by omega, by omega⟩ (by omega), z0, z1⟩, by show 3 - (k + 1) < 3 - k; omega, Ent.sub ?_ ?_⟩
        · (repeat' (first | exact rfl | refine cons_eq ?_ ?_))
          exact congrArg (AO.row int) (set_sw (by omega) (by omega) (get_at (by omega)) (get_at (by omega)))
        · (repeat' (first | exact trivial | exact rfl | refine And.intro ?_ ?_))
          exact congrArg (AV.fz int) (show (a : Int) + 2 * (q : Int) - 1 + (k : Int) + 1 = (a : Int) + 2 * (q : Int) - 1 + ((k + 1 : Nat) : Int) by omega)
      · (repeat' (first | exact trivial | exact fun h => h | refine And.intro ?_ ?_ | (intro hb; first | (simp at hb; done) | (simp at hb) | skip) | omega | exact rfl | exact Nat.le_refl _ | (show _ + 1 ≤ 4294967296; omega) | (dsimp only; omega) | (show (_ : Int) ≤ (_ : Int); omega) | (show _ < List.length _; simp only [List.length_set, List.length_append, List.length_take]; omega) | (show wantB _ _ = true; simp; done) | (show wantB _ _ = true; simp; omega) | (show (_ : Bool) = _; simp_all; done) | (exfalso; omega) | refine aRegion_auto (by decide +kernel) ?_ | fail))
        (apply exEff; focus (repeat' (first | exact ⟨rfl, rfl⟩ | exact trivial | refine And.intro ?_ ?_ | omega | exact Nat.le_refl _ | (show _ + 1 ≤ 4294967296; omega))))
        (repeat' (first | exact trivial | exact fun h => h | refine And.intro ?_ ?_ | (intro hb; first | (simp at hb; done) | (simp at hb) | skip) | omega | exact rfl | exact Nat.le_refl _ | (show _ + 1 ≤ 4294967296; omega) | (dsimp only; omega) | (show (_ : Int) ≤ (_ : Int); omega) | (show _ < List.length _; simp only [List.length_set, List.length_append, List.length_take]; omega) | (show wantB _ _ = true; simp; done) | (show wantB _ _ = true; simp; omega) | (show (_ : Bool) = _; simp_all; done) | (exfalso; omega) | refine aRegion_auto (by decide +kernel) ?_ | fail))
        (apply exEff; focus (repeat' (first | exact ⟨rfl, rfl⟩ | exact trivial | refine And.intro ?_ ?_ | omega | exact Nat.le_refl _ | (show _ + 1 ≤ 4294967296; omega))))
        (repeat' (first | exact trivial | exact fun h => h | refine And.intro ?_ ?_ | (intro hb; first | (simp at hb; done) | (simp at hb) | skip) | omega | exact rfl | exact Nat.le_refl _ | (show _ + 1 ≤ 4294967296; omega) | (dsimp only; omega) | (show (_ : Int) ≤ (_ : Int); omega) | (show _ < List.length _; simp only [List.length_set, List.length_append, List.length_take]; omega) | (show wantB _ _ = true; simp; done) | (show wantB _ _ = true; simp; omega) | (show (_ : Bool) = _; simp_all; done) | (exfalso; omega) | refine aRegion_auto (by decide +kernel) ?_ | fail))
        refine ⟨(Pdq.sw 0 ys (a + 2 * q - 1 + k) (a + o), y', k + 1), ⟨by show k + 1 ≤ 3; omega, .step hsp ⟨by omega, by omega⟩ ⟨by omega, by omega⟩ (by omega), z0, z1⟩, by show 3 - (k + 1) < 3 - k; omega, Ent.sub ?_ ?_⟩
        · (repeat' (first | exact rfl | refine cons_eq ?_ ?_))
          exact congrArg (AO.row int) (set_sw (by omega) (by omega) (get_at (by omega)) (get_at (by omega)))
        · (repeat' (first | exact trivial | exact rfl | refine And.intro ?_ ?_))
          exact congrArg (AV.fz int) (show (a : Int) + 2 * (q : Int) - 1 + (k : Int) + 1 = (a : Int) + 2 * (q : Int) - 1 + ((k + 1 : Nat) : Int) by omega)
    · have hk : k = 3 := by omega
      subst hk
      (repeat' (first | exact trivial | exact fun h => h | refine And.intro ?_ ?_ | (intro hb; first | (simp at hb; done) | (simp at hb) | skip) | omega | exact rfl | exact Nat.le_refl _ | (show _ + 1 ≤ 4294967296; omega) | (dsimp only; omega) | (show (_ : Int) ≤ (_ : Int); omega) | (show _ < List.length _; simp only [List.length_set, List.length_append, List.length_take]; omega) | (show wantB _ _ = true; simp; done) | (show wantB _ _ = true; simp; omega) | (show (_ : Bool) = _; simp_all; done) | (exfalso; omega) | refine aRegion_auto (by decide +kernel) ?_ | fail))
      refine ⟨_, _, REnt.ren [0] rfl ?_ ?_, hK ys hsp⟩ <;> (repeat' (first | exact trivial | exact rfl | refine And.intro ?_ ?_))
  · (repeat' (first | exact trivial | exact fun h => h | refine And.intro ?_ ?_ | (intro hb; first | (simp at hb; done) | (simp at hb) | skip) | omega | exact rfl | exact Nat.le_refl _ | (show _ + 1 ≤ 4294967296; omega) | (dsimp only; omega) | (show (_ : Int) ≤ (_ : Int); omega) | (show _ < List.length _; simp only [List.length_set, List.length_append, List.length_take]; omega) | (show wantB _ _ = true; simp; done) | (show wantB _ _ = true; simp; omega) | (show (_ : Bool) = _; simp_all; done) | (exfalso; omega) | refine aRegion_auto (by decide +kernel) ?_ | fail))
    exact ⟨_, _, REnt.refl _ _ _, hK xs (.refl _)⟩
end Go.Proofs.YtepkknjncpbahaaDoor
/-
  Sorting numbers: the sort itself.
-/
namespace Go.Proofs.YtepkknjncpbahaaDoor
open Go Go.Ab
set_option maxRecDepth 100000
/-- branches that join with different rows and a number -/
structure Bx2 {α : Type} (I c : List Int → α → Prop) : Prop where
  out : ∀ ws l, I ws l → c ws l
theorem merge2 {α : Type} (I : List Int → α → Prop) {c : List Int → α → Prop} {g : Prop} (f : Bx2 I c → g) (h : ∀ ws l, I ws l → c ws l) : g := f ⟨h⟩
structure Bx3 {α β : Type} (I c : List Int → α → β → Prop) : Prop where
  out : ∀ ws l m, I ws l m → c ws l m
theorem merge3 {α β : Type} (I : List Int → α → β → Prop) {c : List Int → α → β → Prop} {g : Prop} (f : Bx3 I c → g) (h : ∀ ws l m, I ws l m → c ws l m) : g := f ⟨h⟩
set_option maxHeartbeats 16000000 in
theorem pdq_any (G : List (Nat × Value)) : ∀ (sz : Nat) (xs : List Int) (n a b lim : Nat), b - a = sz → xs.length = n → n ≤ 128 → a ≤ b → b ≤ n → lim ≤ 64 → Pdq.Pre ltI 0 a b xs → ∀ (K : AV → List AO → Prop), (∀ ys, Pdq.SP 0 a b xs ys → Pdq.Srt ltI 0 a b ys → K (.tup []) [.row int ys]) →
    ACall Tryd.prog G 74 [.ref 0 0 n, .fz int a, .fz int b, .fz int lim] [.row int xs] K := by
  intro sz
  induction sz using Nat.strongRecOn with
  | ind sz ih =>
  intro xs n a b lim hsz hn hs hab hbn hlim hpre K hK
  refine acall_mk (E := envCut G 134 1 [10, 15, 17]) (envCutOk _ _ _ _) Tryd.func74 rfl rfl rfl rfl rfl ?_
  (repeat' (first | exact trivial | exact fun h => h | refine And.intro ?_ ?_ | (intro hb; first | (simp at hb; done) | (simp at hb) | skip) | omega | exact rfl | exact Nat.le_refl _ | (show _ + 1 ≤ 4294967296; omega) | (dsimp only; omega) | (show (_ : Int) ≤ (_ : Int); omega) | (show _ < List.length _; simp only [List.length_set, List.length_append, List.length_take]; omega) | (show wantB _ _ = true; simp; done) | (show wantB _ _ = true; simp; omega) | (show (_ : Bool) = _; simp_all; done) | (exfalso; omega) | refine aRegion_auto (by decide +kernel) ?_ | fail))
  refine ⟨List Int × Nat × Nat × Nat × Bool × Bool, fun x => ⟨[(0, .ref 0 0 n), (1, .fz int x.2.1), (2, .fz int x.2.2.1), (3, .fz int x.2.2.2.1), (8, .fz .bool x.2.2.2.2.1), (9, .fz .bool x.2.2.2.2.2)], [.row int x.1]⟩, fun x => a ≤ x.2.1 ∧ x.2.1 ≤ x.2.2.1 ∧ x.2.2.1 ≤ b ∧ x.2.2.2.1 ≤ 64 ∧ Pdq.SP 0 a b xs x.1 ∧ Pdq.Arn ltI 0 a b x.2.1 x.2.2.1 x.1 ∧ Pdq.Pre ltI 0 x.2.1 x.2.2.1 x.1, fun x => x.2.2.1 - x.2.1, (xs, a, b, lim, true, true), ⟨Nat.le_refl _, hab, Nat.le_refl _, hlim, .refl _, .start, hpre⟩, Ent.sub rfl ?_, ?_⟩
  · (repeat' (first | exact trivial | exact rfl | refine And.intro ?_ ?_))
  rintro ⟨ys, a1, b1, l1, wb, wp⟩ ⟨h1, h2, h3, h4, hsp, har, hpr⟩
  have h1 : a ≤ a1 := h1
  have h2 : a1 ≤ b1 := h2
  have h3 : b1 ≤ b := h3
  have h4 : l1 ≤ 64 := h4
  have hsp : Pdq.SP 0 a b xs ys := hsp
  have har : Pdq.Arn ltI 0 a b a1 b1 ys := har
  have hpr : Pdq.Pre ltI 0 a1 b1 ys := hpr
  have hly := hsp.len
  show awp _ _ _ ⟨[(0, .ref 0 0 n), (1, .fz int a1), (2, .fz int b1), (3, .fz int l1), (8, .fz .bool wb), (9, .fz .bool wp)], [.row int ys]⟩
  by_cases h12 : b1 ≤ a1 + 12
  · (repeat' (first | exact trivial | exact fun h => h | refine And.intro ?_ ?_ | (intro hb; first | (simp at hb; done) | (simp at hb) | skip) | omega | exact rfl | exact Nat.le_refl _ | (show _ + 1 ≤ 4294967296; omega) | (dsimp only; omega) | (show (_ : Int) ≤ (_ : Int); omega) | (show _ < List.length _; simp only [List.length_set, List.length_append, List.length_take]; omega) | (show wantB _ _ = true; simp; done) | (show wantB _ _ = true; simp; omega) | (show (_ : Bool) = _; simp_all; done) | (exfalso; omega) | refine aRegion_auto (by decide +kernel) ?_ | fail))
    refine insertion_any _ ys n a1 b1 (by omega) (by omega) h2 (by omega) _ fun zs z1 z2 => ?_
    (repeat' (first | exact trivial | exact fun h => h | refine And.intro ?_ ?_ | (intro hb; first | (simp at hb; done) | (simp at hb) | skip) | omega | exact rfl | exact Nat.le_refl _ | (show _ + 1 ≤ 4294967296; omega) | (dsimp only; omega) | (show (_ : Int) ≤ (_ : Int); omega) | (show _ < List.length _; simp only [List.length_set, List.length_append, List.length_take]; omega) | (show wantB _ _ = true; simp; done) | (show wantB _ _ = true; simp; omega) | (show (_ : Bool) = _; simp_all; done) | (exfalso; omega) | refine aRegion_auto (by decide +kernel) ?_ | fail))
    exact ⟨_, _, REnt.refl _ _ _, hK zs (hsp.trans (z1.wide h1 h3 (by omega))) ((har.sp h1 h3 z1).done z2)⟩
  by_cases hl0 : l1 = 0
  · subst hl0
    (repeat' (first | exact trivial | exact fun h => h | refine And.intro ?_ ?_ | (intro hb; first | (simp at hb; done) | (simp at hb) | skip) | omega | exact rfl | exact Nat.le_refl _ | (show _ + 1 ≤ 4294967296; omega) | (dsimp only; omega) | (show (_ : Int) ≤ (_ : Int); omega) | (show _ < List.length _; simp only [List.length_set, List.length_append, List.length_take]; omega) | (show wantB _ _ = true; simp; done) | (show wantB _ _ = true; simp; omega) | (show (_ : Bool) = _; simp_all; done) | (exfalso; omega) | refine aRegion_auto (by decide +kernel) ?_ | fail))
    refine heapSort_any _ ys n a1 b1 (by omega) (by omega) h2 (by omega) _ fun zs z1 z2 => ?_
    (repeat' (first | exact trivial | exact fun h => h | refine And.intro ?_ ?_ | (intro hb; first | (simp at hb; done) | (simp at hb) | skip) | omega | exact rfl | exact Nat.le_refl _ | (show _ + 1 ≤ 4294967296; omega) | (dsimp only; omega) | (show (_ : Int) ≤ (_ : Int); omega) | (show _ < List.length _; simp only [List.length_set, List.length_append, List.length_take]; omega) | (show wantB _ _ = true; simp; done) | (show wantB _ _ = true; simp; omega) | (show (_ : Bool) = _; simp_all; done) | (exfalso; omega) | refine aRegion_auto (by decide +kernel) ?_ | fail))
    exact ⟨_, _, REnt.refl _ _ _, hK zs (hsp.trans (z1.wide h1 h3 (by omega))) ((har.sp h1 h3 z1).done z2)⟩
  apply merge2 (fun ws (l : Nat) => Pdq.SP 0 a1 b1 ys ws ∧ l ≤ 64)
  · intro hc
    (repeat' (first | exact trivial | exact fun h => h | refine And.intro ?_ ?_ | (intro hb; first | (simp at hb; done) | (simp at hb) | skip) | omega | exact rfl | exact Nat.le_refl _ | (show _ + 1 ≤ 4294967296; omega) | (dsimp only; omega) | (show (_ : Int) ≤ (_ : Int); omega) | (show _ < List.length _; simp only [List.length_set, List.length_append, List.length_take]; omega) | (show wantB _ _ = true; simp; done) | (show wantB _ _ = true; simp; omega) | (show (_ : Bool) = _; simp_all; done) | (exfalso; omega) | refine aRegion_auto (by decide +kernel) ?_ | fail))
    · refine breakPat_any _ ys n a1 b1 (by omega) hs h2 (by omega) _ fun zs z1 => ?_
      obtain ⟨l2, hl2⟩ : ∃ l2 : Nat, l2 = l1 - 1 := ⟨_, rfl⟩
      (repeat' (first | exact trivial | exact fun h => h | refine And.intro ?_ ?_ | (intro hb; first | (simp at hb; done) | (simp at hb) | skip) | omega | exact rfl | exact Nat.le_refl _ | (show _ + 1 ≤ 4294967296; omega) | (dsimp only; omega) | (show (_ : Int) ≤ (_ : Int); omega) | (show _ < List.length _; simp only [List.length_set, List.length_append, List.length_take]; omega) | (show wantB _ _ = true; simp; done) | (show wantB _ _ = true; simp; omega) | (show (_ : Bool) = _; simp_all; done) | (exfalso; omega) | refine aRegion_auto (by decide +kernel) ?_ | fail))
      refine ⟨[(0, .ref 0 0 n), (1, .fz int a1), (2, .fz int b1), (3, .fz int l2), (8, .fz .bool wb), (9, .fz .bool wp), (10, .fz int ((b1 : Int) - a1))], [.row int zs], Ent.sub rfl ?_, hc.out zs l2 ⟨z1, by omega⟩⟩
      (repeat' (first | exact trivial | exact rfl | refine And.intro ?_ ?_))
      exact congrArg (AV.fz int) (show (l1 : Int) - 1 = l2 by omega)
    · refine ⟨[(0, .ref 0 0 n), (1, .fz int a1), (2, .fz int b1), (3, .fz int l1), (8, .fz .bool wb), (9, .fz .bool wp), (10, .fz int ((b1 : Int) - a1))], [.row int ys], Ent.sub rfl ?_, hc.out ys l1 ⟨.refl _, h4⟩⟩
      (repeat' (first | exact trivial | exact rfl | refine And.intro ?_ ?_))
  clear hl0
  intro ws l ⟨hsw, hl4⟩
  have hl4 : l ≤ 64 := hl4
  have hlw := hsw.len
  (repeat' (first | exact trivial | exact fun h => h | refine And.intro ?_ ?_ | (intro hb; first | (simp at hb; done) | (simp at hb) | skip) | omega | exact rfl | exact Nat.le_refl _ | (show _ + 1 ≤ 4294967296; omega) | (dsimp only; omega) | (show (_ : Int) ≤ (_ : Int); omega) | (show _ < List.length _; simp only [List.length_set, List.length_append, List.length_take]; omega) | (show wantB _ _ = true; simp; done) | (show wantB _ _ = true; simp; omega) | (show (_ : Bool) = _; simp_all; done) | (exfalso; omega) | refine aRegion_auto (by decide +kernel) ?_ | fail))
  refine choosePivot_any _ ws n a1 b1 (by omega) (by omega) (by omega) (by omega) _ fun p hi p1 p2 => ?_
  apply merge3 (fun us (x : Nat) (_ : Int) => Pdq.SP 0 a1 b1 ys us ∧ a1 ≤ x ∧ x < b1)
  · intro hc
    (repeat' (first | exact trivial | exact fun h => h | refine And.intro ?_ ?_ | (intro hb; first | (simp at hb; done) | (simp at hb) | skip) | omega | exact rfl | exact Nat.le_refl _ | (show _ + 1 ≤ 4294967296; omega) | (dsimp only; omega) | (show (_ : Int) ≤ (_ : Int); omega) | (show _ < List.length _; simp only [List.length_set, List.length_append, List.length_take]; omega) | (show wantB _ _ = true; simp; done) | (show wantB _ _ = true; simp; omega) | (show (_ : Bool) = _; simp_all; done) | (exfalso; omega) | refine aRegion_auto (by decide +kernel) ?_ | fail))
    · refine reverse_any _ ws n a1 b1 (by omega) (by omega) h2 (by omega) _ fun us u1 => ?_
      obtain ⟨p', hp'⟩ : ∃ p' : Nat, p' = b1 - 1 - (p - a1) := ⟨_, rfl⟩
      obtain ⟨hi1, ehi⟩ : ∃ z : Int, z = 1 := ⟨_, rfl⟩
      (repeat' (first | exact trivial | exact fun h => h | refine And.intro ?_ ?_ | (intro hb; first | (simp at hb; done) | (simp at hb) | skip) | omega | exact rfl | exact Nat.le_refl _ | (show _ + 1 ≤ 4294967296; omega) | (dsimp only; omega) | (show (_ : Int) ≤ (_ : Int); omega) | (show _ < List.length _; simp only [List.length_set, List.length_append, List.length_take]; omega) | (show wantB _ _ = true; simp; done) | (show wantB _ _ = true; simp; omega) | (show (_ : Bool) = _; simp_all; done) | (exfalso; omega) | refine aRegion_auto (by decide +kernel) ?_ | fail))
      refine ⟨[(0, .ref 0 0 n), (1, .fz int a1), (2, .fz int b1), (3, .fz int l), (8, .fz .bool wb), (9, .fz .bool wp), (10, .fz int ((b1 : Int) - a1)), (11, .fz int p'), (12, .fz int hi1)], [.row int us], Ent.sub rfl ?_, hc.out us p' hi1 ⟨hsw.trans u1, by show a1 ≤ p'; omega, by show p' < b1; omega⟩⟩
      (repeat' (first | exact trivial | exact rfl | refine And.intro ?_ ?_))
      · exact congrArg (AV.fz int) (show (b1 : Int) - 1 - ((p : Int) - a1) = p' by omega)
      · exact congrArg (AV.fz int) ehi.symm
    · refine ⟨[(0, .ref 0 0 n), (1, .fz int a1), (2, .fz int b1), (3, .fz int l), (8, .fz .bool wb), (9, .fz .bool wp), (10, .fz int ((b1 : Int) - a1)), (11, .fz int p), (12, .fz int hi)], [.row int ws], Ent.sub rfl ?_, hc.out ws p hi ⟨hsw, p1, p2⟩⟩
      (repeat' (first | exact trivial | exact rfl | refine And.intro ?_ ?_))
  clear hsw hlw p1 p2
  intro us p' hint ⟨hsu, q1, q2⟩
  have q1 : a1 ≤ p' := q1
  have q2 : p' < b1 := q2
  have hlu := hsu.len
  apply merge1 (fun vs => Pdq.SP 0 a1 b1 ys vs)
  · intro hc
    (repeat' (first | exact trivial | exact fun h => h | refine And.intro ?_ ?_ | (intro hb; first | (simp at hb; done) | (simp at hb) | skip) | omega | exact rfl | exact Nat.le_refl _ | (show _ + 1 ≤ 4294967296; omega) | (dsimp only; omega) | (show (_ : Int) ≤ (_ : Int); omega) | (show _ < List.length _; simp only [List.length_set, List.length_append, List.length_take]; omega) | (show wantB _ _ = true; simp; done) | (show wantB _ _ = true; simp; omega) | (show (_ : Bool) = _; simp_all; done) | (exfalso; omega) | refine aRegion_auto (by decide +kernel) ?_ | fail))
    · refine partialIns_any _ us n a1 b1 (by omega) (by omega) (by omega) (by omega) (hpr.sp hsu) _ fun vs q v1 v2 => ?_
      (repeat' (first | exact trivial | exact fun h => h | refine And.intro ?_ ?_ | (intro hb; first | (simp at hb; done) | (simp at hb) | skip) | omega | exact rfl | exact Nat.le_refl _ | (show _ + 1 ≤ 4294967296; omega) | (dsimp only; omega) | (show (_ : Int) ≤ (_ : Int); omega) | (show _ < List.length _; simp only [List.length_set, List.length_append, List.length_take]; omega) | (show wantB _ _ = true; simp; done) | (show wantB _ _ = true; simp; omega) | (show (_ : Bool) = _; simp_all; done) | (exfalso; omega) | refine aRegion_auto (by decide +kernel) ?_ | fail))
      · exact ⟨_, _, REnt.refl _ _ _, hK vs (hsp.trans ((hsu.trans v1).wide h1 h3 (by omega))) ((har.sp h1 h3 (hsu.trans v1)).done (v2 hb))⟩
      · refine ⟨[(0, .ref 0 0 n), (1, .fz int a1), (2, .fz int b1), (3, .fz int l), (8, .fz .bool wb), (9, .fz .bool wp), (10, .fz int ((b1 : Int) - a1)), (11, .fz int p'), (12, .fz int hint)], [.row int vs], Ent.sub rfl ?_, hc.out vs (hsu.trans v1)⟩
        (repeat' (first | exact trivial | exact rfl | refine And.intro ?_ ?_))
    all_goals refine ⟨[(0, .ref 0 0 n), (1, .fz int a1), (2, .fz int b1), (3, .fz int l), (8, .fz .bool wb), (9, .fz .bool wp), (10, .fz int ((b1 : Int) - a1)), (11, .fz int p'), (12, .fz int hint)], [.row int us], Ent.sub rfl ?_, hc.out us hsu⟩
    all_goals (repeat' (first | exact trivial | exact rfl | refine And.intro ?_ ?_))
  clear hsu hlu
  intro vs hsv
  have hlv := hsv.len
  have harv := har.sp h1 h3 hsv
  have hprv := hpr.sp hsv
  by_cases ha0 : 0 < a1
  · (repeat' (first | exact trivial | exact fun h => h | refine And.intro ?_ ?_ | (intro hb; first | (simp at hb; done) | (simp at hb) | skip) | omega | exact rfl | exact Nat.le_refl _ | (show _ + 1 ≤ 4294967296; omega) | (dsimp only; omega) | (show (_ : Int) ≤ (_ : Int); omega) | (show _ < List.length _; simp only [List.length_set, List.length_append, List.length_take]; omega) | (show wantB _ _ = true; simp; done) | (show wantB _ _ = true; simp; omega) | (show (_ : Bool) = _; simp_all; done) | (exfalso; omega) | refine aRegion_auto (by decide +kernel) ?_ | fail))
    apply exEff
    · refine ⟨fun _ => ?_, fun h => absurd h (by simp; omega)⟩
      (repeat' (first | refine And.intro ?_ ?_ | (show wantB _ _ = true; simp; omega)))
      refine acall_frame0 rfl (less_int _ _ _ _ ?_)
      exact ⟨rfl, rfl⟩
    (repeat' (first | exact trivial | exact fun h => h | refine And.intro ?_ ?_ | (intro hb; first | (simp at hb; done) | (simp at hb) | skip) | omega | exact rfl | exact Nat.le_refl _ | (show _ + 1 ≤ 4294967296; omega) | (dsimp only; omega) | (show (_ : Int) ≤ (_ : Int); omega) | (show _ < List.length _; simp only [List.length_set, List.length_append, List.length_take]; omega) | (show wantB _ _ = true; simp; done) | (show wantB _ _ = true; simp; omega) | (show (_ : Bool) = _; simp_all; done) | (exfalso; omega) | refine aRegion_auto (by decide +kernel) ?_ | fail))
    · have hb2 := hb.2
      rw [get_q, get_q] at hb2
      have hge : ∀ k, a1 ≤ k → k < b1 → Pdq.le ltI (vs.getD p' 0) (vs.getD k 0) := fun k k1 k2 => by
        rcases hprv with h0 | h0
        · omega
        · exact Pdq.le_trans ltI_ok hb2 (h0 k k1 k2)
      refine partitionEqual_any _ vs n a1 b1 p' (by omega) (by omega) q1 q2 (by omega) _ fun us m u1 u2 u3 => ?_
      have hspu := hsp.trans ((hsv.trans u1).wide h1 h3 (by omega))
      have haru := harv.sp h1 h3 u1
      have m1 := u2.1
      have m2 := u2.2.1
      (repeat' (first | exact trivial | exact fun h => h | refine And.intro ?_ ?_ | (intro hb; first | (simp at hb; done) | (simp at hb) | skip) | omega | exact rfl | exact Nat.le_refl _ | (show _ + 1 ≤ 4294967296; omega) | (dsimp only; omega) | (show (_ : Int) ≤ (_ : Int); omega) | (show _ < List.length _; simp only [List.length_set, List.length_append, List.length_take]; omega) | (show wantB _ _ = true; simp; done) | (show wantB _ _ = true; simp; omega) | (show (_ : Bool) = _; simp_all; done) | (exfalso; omega) | refine aRegion_auto (by decide +kernel) ?_ | fail))
      refine ⟨(us, m, b1, l, wb, wp), ⟨by show a ≤ m; omega, m2, h3, hl4, hspu, haru.parE ltI_ok u2 ?_, .parE ltI_ok u2⟩, by show b1 - m < b1 - a1; omega, Ent.sub rfl ?_⟩
      · rw [u3]
        exact u1.all (P := fun z => Pdq.le ltI (vs.getD p' 0) z) hge
      · (repeat' (first | exact trivial | exact rfl | refine And.intro ?_ ?_))
    · clear hb
      refine partition_any _ vs n a1 b1 p' (by omega) (by omega) q1 q2 (by omega) _ fun us m q u1 u2 => ?_
      have hspu := hsp.trans ((hsv.trans u1).wide h1 h3 (by omega))
      have haru := harv.sp h1 h3 u1
      have hpru := hprv.sp u1
      have hlu := u1.len
      have m1 := u2.1
      have m2 := u2.2.1
      have h8 : 0 ≤ Int.tdiv ((b1 : Int) - a1) 8 ∧ Int.tdiv ((b1 : Int) - a1) 8 ≤ 1000000000 := by rw [Int.tdiv_eq_ediv_of_nonneg (by omega)]; omega
      (repeat' (first | exact trivial | exact fun h => h | refine And.intro ?_ ?_ | (intro hb; first | (simp at hb; done) | (simp at hb) | skip) | omega | exact rfl | exact Nat.le_refl _ | (show _ + 1 ≤ 4294967296; omega) | (dsimp only; omega) | (show (_ : Int) ≤ (_ : Int); omega) | (show _ < List.length _; simp only [List.length_set, List.length_append, List.length_take]; omega) | (show wantB _ _ = true; simp; done) | (show wantB _ _ = true; simp; omega) | (show (_ : Bool) = _; simp_all; done) | (exfalso; omega) | refine aRegion_auto (by decide +kernel) ?_ | fail))
      · obtain ⟨wb', hwb⟩ : ∃ wb' : Bool, wb' = decide (Int.tdiv ((b1 : Int) - a1) 8 ≤ (m : Int) - a1) := ⟨_, rfl⟩
        refine ih (m - a1) (by omega) us n a1 m l rfl (by omega) hs m1 (by omega) hl4 (hpru.less (by omega)) _ fun zs z1 z2 => ?_
        have z1' : Pdq.SP 0 a1 b1 us zs := z1.wide (Nat.le_refl _) (by omega) (by omega)
        have z3 := u2.left ltI_ok z1
        (repeat' (first | exact trivial | exact fun h => h | refine And.intro ?_ ?_ | (intro hb; first | (simp at hb; done) | (simp at hb) | skip) | omega | exact rfl | exact Nat.le_refl _ | (show _ + 1 ≤ 4294967296; omega) | (dsimp only; omega) | (show (_ : Int) ≤ (_ : Int); omega) | (show _ < List.length _; simp only [List.length_set, List.length_append, List.length_take]; omega) | (show wantB _ _ = true; simp; done) | (show wantB _ _ = true; simp; omega) | (show (_ : Bool) = _; simp_all; done) | (exfalso; omega) | refine aRegion_auto (by decide +kernel) ?_ | fail))
        refine ⟨(zs, m + 1, b1, l, wb', q), ⟨by show a ≤ m + 1; omega, by show m + 1 ≤ b1; omega, h3, hl4, hspu.trans (z1'.wide h1 h3 (by omega)), (haru.sp h1 h3 z1').par_left ltI_ok z3 z2, .par z3⟩, by show b1 - (m + 1) < b1 - a1; omega, Ent.sub rfl ?_⟩
        (repeat' (first | exact trivial | exact rfl | refine And.intro ?_ ?_))
        exact congrArg (AV.fz .bool) hwb.symm
      · obtain ⟨wb', hwb⟩ : ∃ wb' : Bool, wb' = decide (Int.tdiv ((b1 : Int) - a1) 8 ≤ (b1 : Int) - m) := ⟨_, rfl⟩
        refine acall_arg (ih (b1 - (m + 1)) (by omega) us n (m + 1) b1 l rfl (by omega) hs (by omega) (by omega) hl4 (.par u2) _ fun zs z1 z2 => ?_) (congrArg (fun z => [AV.ref 0 0 n, AV.fz int z, AV.fz int b1, AV.fz int l]) (show ((m + 1 : Nat) : Int) = (m : Int) + 1 by omega))
        have z1' : Pdq.SP 0 a1 b1 us zs := z1.wide (by omega) (Nat.le_refl _) (by omega)
        have z3 := u2.right z1
        (repeat' (first | exact trivial | exact fun h => h | refine And.intro ?_ ?_ | (intro hb; first | (simp at hb; done) | (simp at hb) | skip) | omega | exact rfl | exact Nat.le_refl _ | (show _ + 1 ≤ 4294967296; omega) | (dsimp only; omega) | (show (_ : Int) ≤ (_ : Int); omega) | (show _ < List.length _; simp only [List.length_set, List.length_append, List.length_take]; omega) | (show wantB _ _ = true; simp; done) | (show wantB _ _ = true; simp; omega) | (show (_ : Bool) = _; simp_all; done) | (exfalso; omega) | refine aRegion_auto (by decide +kernel) ?_ | fail))
        refine ⟨(zs, a1, m, l, wb', q), ⟨h1, m1, by show m ≤ b; omega, hl4, hspu.trans (z1'.wide h1 h3 (by omega)), (haru.sp h1 h3 z1').par_right ltI_ok z3 z2, (hpru.sp z1').less (Nat.le_of_lt m2)⟩, by show m - a1 < b1 - a1; omega, Ent.sub rfl ?_⟩
        (repeat' (first | exact trivial | exact rfl | refine And.intro ?_ ?_))
        exact congrArg (AV.fz .bool) hwb.symm
  · (repeat' (first | exact trivial | exact fun h => h | refine And.intro ?_ ?_ | (intro hb; first | (simp at hb; done) | (simp at hb) | skip) | omega | exact rfl | exact Nat.le_refl _ | (show _ + 1 ≤ 4294967296; omega) | (dsimp only; omega) | (show (_ : Int) ≤ (_ : Int); omega) | (show _ < List.length _; simp only [List.length_set, List.length_append, List.length_take]; omega) | (show wantB _ _ = true; simp; done) | (show wantB _ _ = true; simp; omega) | (show (_ : Bool) = _; simp_all; done) | (exfalso; omega) | refine aRegion_auto (by decide +kernel) ?_ | fail))
    apply exEff
    · refine ⟨fun h => absurd h (by simp; omega), fun _ => ⟨rfl, rfl⟩⟩
    (repeat' (first | exact trivial | exact fun h => h | refine And.intro ?_ ?_ | (intro hb; first | (simp at hb; done) | (simp at hb) | skip) | omega | exact rfl | exact Nat.le_refl _ | (show _ + 1 ≤ 4294967296; omega) | (dsimp only; omega) | (show (_ : Int) ≤ (_ : Int); omega) | (show _ < List.length _; simp only [List.length_set, List.length_append, List.length_take]; omega) | (show wantB _ _ = true; simp; done) | (show wantB _ _ = true; simp; omega) | (show (_ : Bool) = _; simp_all; done) | (exfalso; omega) | refine aRegion_auto (by decide +kernel) ?_ | fail))
    all_goals first | exact decide_eq_false (by omega) | skip
    refine partition_any _ vs n a1 b1 p' (by omega) (by omega) q1 q2 (by omega) _ fun us m q u1 u2 => ?_
    have hspu := hsp.trans ((hsv.trans u1).wide h1 h3 (by omega))
    have haru := harv.sp h1 h3 u1
    have hpru := hprv.sp u1
    have hlu := u1.len
    have m1 := u2.1
    have m2 := u2.2.1
    have h8 : 0 ≤ Int.tdiv ((b1 : Int) - a1) 8 ∧ Int.tdiv ((b1 : Int) - a1) 8 ≤ 1000000000 := by rw [Int.tdiv_eq_ediv_of_nonneg (by omega)]; omega
    (repeat' (first | exact trivial | exact fun h => h | refine And.intro ?_ ?_ | (intro hb; first | (simp at hb; done) | (simp at hb) | skip) | omega | exact rfl | exact Nat.le_refl _ | (show _ + 1 ≤ 4294967296; omega) | (dsimp only; omega) | (show (_ : Int) ≤ (_ : Int); omega) | (show _ < List.length _; simp only [List.length_set, List.length_append, List.length_take]; omega) | (show wantB _ _ = true; simp; done) | (show wantB _ _ = true; simp; omega) | (show (_ : Bool) = _; simp_all; done) | (exfalso; omega) | refine aRegion_auto (by decide +kernel) ?_ | fail))
    · obtain ⟨wb', hwb⟩ : ∃ wb' : Bool, wb' = decide (Int.tdiv ((b1 : Int) - a1) 8 ≤ (m : Int) - a1) := ⟨_, rfl⟩
      refine ih (m - a1) (by omega) us n a1 m l rfl (by omega) hs m1 (by omega) hl4 (hpru.less (by omega)) _ fun zs z1 z2 => ?_
      have z1' : Pdq.SP 0 a1 b1 us zs := z1.wide (Nat.le_refl _) (by omega) (by omega)
      have z3 := u2.left ltI_ok z1
      (repeat' (first | exact trivial | exact fun h => h | refine And.intro ?_ ?_ | (intro hb; first | (simp at hb; done) | (simp at hb) | skip) | omega | exact rfl | exact Nat.le_refl _ | (show _ + 1 ≤ 4294967296; omega) | (dsimp only; omega) | (show (_ : Int) ≤ (_ : Int); omega) | (show _ < List.length _; simp only [List.length_set, List.length_append, List.length_take]; omega) | (show wantB _ _ = true; simp; done) | (show wantB _ _ = true; simp; omega) | (show (_ : Bool) = _; simp_all; done) | (exfalso; omega) | refine aRegion_auto (by decide +kernel) ?_ | fail))
      refine ⟨(zs, m + 1, b1, l, wb', q), ⟨by show a ≤ m + 1; omega, by show m + 1 ≤ b1; omega, h3, hl4, hspu.trans (z1'.wide h1 h3 (by omega)), (haru.sp h1 h3 z1').par_left ltI_ok z3 z2, .par z3⟩, by show b1 - (m + 1) < b1 - a1; omega, Ent.sub rfl ?_⟩
      (repeat' (first | exact trivial | exact rfl | refine And.intro ?_ ?_))
      exact congrArg (AV.fz .bool) hwb.symm
    · obtain ⟨wb', hwb⟩ : ∃ wb' : Bool, wb' = decide (Int.tdiv ((b1 : Int) - a1) 8 ≤ (b1 : Int) - m) := ⟨_, rfl⟩
      refine acall_arg (ih (b1 - (m + 1)) (by omega) us n (m + 1) b1 l rfl (by omega) hs (by omega) (by omega) hl4 (.par u2) _ fun zs z1 z2 => ?_) (congrArg (fun z => [AV.ref 0 0 n, AV.fz int z, AV.fz int b1, AV.fz int l]) (show ((m + 1 : Nat) : Int) = (m : Int) + 1 by omega))
      have z1' : Pdq.SP 0 a1 b1 us zs := z1.wide (by omega) (Nat.le_refl _) (by omega)
      have z3 := u2.right z1
      (repeat' (first | exact trivial | exact fun h => h | refine And.intro ?_ ?_ | (intro hb; first | (simp at hb; done) | (simp at hb) | skip) | omega | exact rfl | exact Nat.le_refl _ | (show _ + 1 ≤ 4294967296; omega) | (dsimp only; omega) | (show (_ : Int) ≤ (_ : Int); omega) | (show _ < List.length _; simp only [List.length_set, List.length_append, List.length_take]; omega) | (show wantB _ _ = true; simp; done) | (show wantB _ _ = true; simp; omega) | (show (_ : Bool) = _; simp_all; done) | (exfalso; omega) | refine aRegion_auto (by decide +kernel) ?_ | fail))
      refine ⟨(zs, a1, m, l, wb', q), ⟨h1, m1, by show m ≤ b; omega, hl4, hspu.trans (z1'.wide h1 h3 (by omega)), (haru.sp h1 h3 z1').par_right ltI_ok z3 z2, (hpru.sp z1').less (Nat.le_of_lt m2)⟩, by show m - a1 < b1 - a1; omega, Ent.sub rfl ?_⟩
      (repeat' (first | exact trivial | exact rfl | refine And.intro ?_ ?_))
      exact congrArg (AV.fz .bool) hwb.symm
end Go.Proofs.YtepkknjncpbahaaDoor
/-
  Lakes: slices.Sort; which cells are wet and not gone yet.
-/
namespace Go.Proofs.YtepkknjncpbahaaDoor
open Go Go.Ab
set_option maxRecDepth 100000
theorem sort_any (G : List (Nat × Value)) (xs : List Int) (n : Nat) (hn : xs.length = n) (hs : n ≤ 128) (K : AV → List AO → Prop) (hK : ∀ ys : List Int, ys.Perm xs → ys.Pairwise (· ≤ ·) → K (.tup []) [.row int ys]) :
    ACall Tryd.prog G 63 [.ref 0 0 n] [.row int xs] K := by
  have hw : IntKind.wrap .u64 (n : Int) = n := by
    clear hK
    have := hs
    clear hs hn
    revert n
    decide +kernel
  have hbl : bl n ≤ 64 := by
    clear hK hw hn
    revert n
    decide +kernel
  refine acall_mk (E := envAt G 11 1) (envOk _ _ _) Tryd.func63 rfl rfl rfl rfl rfl ?_
  (repeat' (first | exact trivial | exact fun h => h | refine And.intro ?_ ?_ | (intro hb; first | (simp at hb; done) | (simp at hb) | skip) | omega | exact rfl | exact Nat.le_refl _ | (show _ + 1 ≤ 4294967296; omega) | (dsimp only; omega) | (show (_ : Int) ≤ (_ : Int); omega) | (show _ < List.length _; simp only [List.length_set, List.length_append, List.length_take]; omega) | (show wantB _ _ = true; simp; done) | (show wantB _ _ = true; simp; omega) | (show (_ : Bool) = _; simp_all; done) | (exfalso; omega) | refine aRegion_auto (by decide +kernel) ?_ | fail))
  refine acall_frame0 rfl (acall_arg (bitsLen_any _ n (by omega) _ ?_) (congrArg (fun z => [AV.fz (.int .u64) z]) hw.symm))
  (repeat' (first | exact trivial | exact fun h => h | refine And.intro ?_ ?_ | (intro hb; first | (simp at hb; done) | (simp at hb) | skip) | omega | exact rfl | exact Nat.le_refl _ | (show _ + 1 ≤ 4294967296; omega) | (dsimp only; omega) | (show (_ : Int) ≤ (_ : Int); omega) | (show _ < List.length _; simp only [List.length_set, List.length_append, List.length_take]; omega) | (show wantB _ _ = true; simp; done) | (show wantB _ _ = true; simp; omega) | (show (_ : Bool) = _; simp_all; done) | (exfalso; omega) | refine aRegion_auto (by decide +kernel) ?_ | fail))
  refine pdq_any _ n xs n 0 n (bl n) (by omega) hn hs (Nat.zero_le _) (Nat.le_refl _) hbl (.inl rfl) _ fun ys y1 y2 => ?_
  (repeat' (first | exact trivial | exact fun h => h | refine And.intro ?_ ?_ | (intro hb; first | (simp at hb; done) | (simp at hb) | skip) | omega | exact rfl | exact Nat.le_refl _ | (show _ + 1 ≤ 4294967296; omega) | (dsimp only; omega) | (show (_ : Int) ≤ (_ : Int); omega) | (show _ < List.length _; simp only [List.length_set, List.length_append, List.length_take]; omega) | (show wantB _ _ = true; simp; done) | (show wantB _ _ = true; simp; omega) | (show (_ : Bool) = _; simp_all; done) | (exfalso; omega) | refine aRegion_auto (by decide +kernel) ?_ | fail))
  refine ⟨_, _, REnt.refl _ _ _, hK ys y1.perm (Lk.srt_pair fun i j i1 i2 i3 => ?_)⟩
  have := y2 i j i1 i2 (by rw [← hn, ← y1.len]; exact i3)
  simpa [Pdq.le, ltI] using this
def lstb (n : Nat) (f : Nat → Bool) : List Bool := (List.range n).map f
theorem lstb_len (n : Nat) (f : Nat → Bool) : (lstb n f).length = n := by simp [lstb]
theorem lstb_at {n i : Nat} (f : Nat → Bool) (h : i < n) : (lstb n f).getD i false = f i := by simp [lstb, List.getD, h]
theorem lstb_congr {n : Nat} {f g : Nat → Bool} (h : ∀ i, i < n → f i = g i) : lstb n f = lstb n g := List.map_congr_left fun i hi => h i (List.mem_range.1 hi)
theorem lstb_set {n i : Nat} (f : Nat → Bool) (v : Bool) : List.set (lstb n f) i v = lstb n (fun j => if j = i then v else f j) := by
  apply List.ext_getElem
  · simp [lstb]
  · intro j h1 h2
    simp only [lstb, List.getElem_set, List.getElem_map, List.getElem_range]
    by_cases e : i = j
    · subst e; simp
    · rw [if_neg e, if_neg (fun h => e h.symm)]
theorem lstb_zero (n : Nat) : List.replicate n false = lstb n (fun _ => false) := by
  apply List.ext_getElem
  · simp [lstb]
  · intro j h1 h2
    simp [lstb]
/-- what the lakes' rule looks at: the full raster, the raster, which cells are gone -/
abbrev lkA (a : Ras) (n : Nat) (W H : Int) (fl : Nat → Int) (g : List Bool) : List AO := [.box [.ref 3 0 n], .box [.fz int W, .fz int H, .fz (.list int) (lst n fl)], .box [.fz int a.1, .fz int a.2.1, .fz (.list int) a.2.2], .row .bool g]
def wetF (a : Ras) (fl : Nat → Int) (j : Nat) : Bool := decide (hts a j < fl j)
set_option maxHeartbeats 4000000 in
theorem wet_any (G : List (Nat × Value)) (a : Ras) (n : Nat) (W H : Int) (fl : Nat → Int) (g : Nat → Bool) (hl : a.2.2.length = n) (hn : n ≤ 16384) (j : Nat) (hj : j < n) (K : AV → List AO → Prop) (hK : K (.fz .bool (wetF a fl j && !(g j))) (lkA a n W H fl (lstb n g))) :
    ACall Tryd.prog G 48 [.fz int j, .ptr 1 0, .ptr 2 0, .ptr 0 0] (lkA a n W H fl (lstb n g)) K := by
  have h1 := lst_len n fl
  have h2 := lstb_len n g
  have g1 : (lst n fl)[j]?.getD int.dft = fl j := lst_get _ hj
  have g2 : (lstb n g)[j]?.getD Ty.bool.dft = g j := lstb_at _ hj
  have g3 : a.2.2[j]?.getD int.dft = hts a j := rfl
  refine acall_mk (E := envAt G 24 4) (envOk _ _ _) Tryd.func48 rfl rfl rfl rfl rfl ?_
  (repeat' (first | exact trivial | exact fun h => h | refine And.intro ?_ ?_ | (intro hb; first | (simp at hb; done) | (simp at hb) | skip) | omega | exact rfl | exact Nat.le_refl _ | (show _ + 1 ≤ 4294967296; omega) | (dsimp only; omega) | (show (_ : Int) ≤ (_ : Int); omega) | (show _ < List.length _; simp only [List.length_set, List.length_append, List.length_take]; omega) | (show wantB _ _ = true; simp; done) | (show wantB _ _ = true; simp; omega) | (show (_ : Bool) = _; simp_all; done) | (exfalso; omega) | refine aRegion_auto (by decide +kernel) ?_ | fail))
  refine ⟨_, _, REnt.refl _ _ _, ?_⟩
  refine (congrArg (fun q => K (.fz .bool q) (lkA a n W H fl (lstb n g))) (?_ : (bif decide (List.getD a.2.2 (Int.toNat (j : Int)) int.dft < List.getD (lst n fl) (Int.toNat (j : Int)) int.dft) then !(List.getD (lstb n g) (0 + Int.toNat (j : Int)) Ty.bool.dft) else false) = (wetF a fl j && !(g j)))).mpr hK
  rw [Nat.zero_add, Int.toNat_natCast, show List.getD (lst n fl) j int.dft = fl j from lst_at _ hj, show List.getD (lstb n g) j Ty.bool.dft = g j from lstb_at _ hj, show List.getD a.2.2 j int.dft = hts a j from rfl]
  unfold wetF
  cases decide (hts a j < fl j) <;> rfl
end Go.Proofs.YtepkknjncpbahaaDoor
/-
  Lakes: the spread from a cell.
-/
namespace Go.Proofs.YtepkknjncpbahaaDoor
open Go Go.Ab
set_option maxRecDepth 100000
/-- a lake as the program gives it -/
def lakeL (n : Nat) (o : Nat → Int) (i : Nat) : List Int := natL (Lk.cls n o i)
def glF (a : Ras) (fl o : Nat → Int) (i : Nat) (l : List Nat) (j : Nat) : Bool := Lk.goneB (wetF a fl) o i j || decide (j ∈ l)
theorem glF_add (a : Ras) (n : Nat) (fl o : Nat → Int) (i : Nat) (l : List Nat) (m : Nat) : List.set (lstb n (glF a fl o i l)) m true = lstb n (glF a fl o i (l ++ [m])) := by
  rw [lstb_set]
  refine lstb_congr fun j _ => ?_
  unfold glF
  by_cases e : j = m
  · rw [if_pos e, e]; simp
  · rw [if_neg e]; simp [e]
theorem glF_start (a : Ras) (n : Nat) (fl o : Nat → Int) (i : Nat) : List.set (lstb n (Lk.goneB (wetF a fl) o i)) i true = lstb n (glF a fl o i [i]) := by
  have := glF_add a n fl o i [] i
  rw [← List.nil_append [i], ← this]
  congr 1
  exact lstb_congr fun j _ => by simp [glF]
set_option maxHeartbeats 8000000 in
theorem spread_any (G : List (Nat × Value)) (a : Ras) {w h : Nat} (R : RasN a w h) (n : Nat) (hn : n = w * h) (hs : n ≤ 80) (W H : Int) (fl o : Nat → Int) (ho : Lk.Lak n (wetF a fl) (touchN w) o) (i : Nat) (hi : i < n) (hoi : o i = i) (K : AV → List AO → Prop) (hK : K (.fz (.list int) (lakeL n o i)) (lkA a n W H fl (lstb n (Lk.goneB (wetF a fl) o (i + 1))))) :
    ACall Tryd.prog G 49 [.fz RasT a, .fz int i, .ref 3 0 n, .fn 48 [.ptr 1 0, .ptr 2 0, .ptr 0 0]] (lkA a n W H fl (lstb n (Lk.goneB (wetF a fl) o i))) K := by
  have hl := R.len
  rw [← hn] at hl
  have hg0 := lstb_len n (Lk.goneB (wetF a fl) o i)
  let bF : AO := .box [.fz int W, .fz int H, .fz (.list int) (lst n fl)]
  let bA : AO := .box [.fz int a.1, .fz int a.2.1, .fz (.list int) a.2.2]
  let fn : AV := .fn 48 [.ptr 1 0, .ptr 2 0, .ptr 0 0]
  refine acall_mk (E := envAt G 49 4) (envOk _ _ _) Tryd.func49 rfl rfl rfl rfl rfl ?_
  (repeat' (first | exact trivial | exact fun h => h | refine And.intro ?_ ?_ | (intro hb; first | (simp at hb; done) | (simp at hb) | skip) | omega | exact rfl | exact Nat.le_refl _ | (show _ + 1 ≤ 4294967296; omega) | (dsimp only; omega) | (show (_ : Int) ≤ (_ : Int); omega) | (show _ < List.length _; simp only [List.length_set, List.length_append, List.length_take]; omega) | (show wantB _ _ = true; simp; done) | (show wantB _ _ = true; simp; omega) | (show (_ : Bool) = _; simp_all; done) | (exfalso; omega) | refine aRegion_auto (by decide +kernel) ?_ | fail))
  refine ⟨List Nat × Nat, fun x => ⟨[(2, .ref 3 0 n), (3, fn), (4, .ptr 4 0), (9, .ref 5 0 x.1.length), (10, .fz int x.2)], [.box [.ref 3 0 n], bF, bA, .row .bool (lstb n (glF a fl o i x.1)), bA, .row int (natL x.1)]⟩, fun x => Lk.BI n (wetF a fl) (touchN w) o i x.1 x.2, fun x => n - x.2, ([i], 0), Lk.BI.start hi hoi, Ent.sub ?_ ?_, ?_⟩
  · (repeat' (first | exact rfl | refine cons_eq ?_ ?_))
    exact congrArg (AO.row .bool) (show List.set (lstb n (Lk.goneB (wetF a fl) o i)) (0 + Int.toNat (i : Int)) true = _ by rw [Nat.zero_add, Int.toNat_natCast]; exact glF_start a n fl o i)
  · (repeat' (first | exact trivial | exact rfl | refine And.intro ?_ ?_))
  rintro ⟨l, k⟩ hB
  have hB : Lk.BI n (wetF a fl) (touchN w) o i l k := hB
  have hlk := hB.le
  have hln := hB.len
  have hnl := natL_len l
  have hgl := lstb_len n (glF a fl o i l)
  show awp _ _ _ ⟨[(2, .ref 3 0 n), (3, fn), (4, .ptr 4 0), (9, .ref 5 0 l.length), (10, .fz int k)], [.box [.ref 3 0 n], bF, bA, .row .bool (lstb n (glF a fl o i l)), bA, .row int (natL l)]⟩
  by_cases hk : k < l.length
  · obtain ⟨c, hc⟩ : ∃ c, c = l.getD k 0 := ⟨_, rfl⟩
    have hcl : c ∈ l := by rw [hc, ← List.getElem_eq_getD (h := hk)]; exact List.getElem_mem _
    obtain ⟨hcn, hco⟩ := hB.inn c hcl
    have gc : (natL l)[k]?.getD int.dft = (c : Int) := by rw [natL_get l hk, hc, List.getElem_eq_getD]
    obtain ⟨a9, am⟩ := arN_mem w h c
    have wc : wetF a fl c = true := (ho.of.isWet hcn).2 (by omega)
    obtain ⟨nb, hnb⟩ : ∃ nb, nb = arN w h c := ⟨_, rfl⟩
    rw [← hnb] at a9 am
    (repeat' (first | exact trivial | exact fun h => h | refine And.intro ?_ ?_ | (intro hb; first | (simp at hb; done) | (simp at hb) | skip) | omega | exact rfl | exact Nat.le_refl _ | (show _ + 1 ≤ 4294967296; omega) | (dsimp only; omega) | (show (_ : Int) ≤ (_ : Int); omega) | (show _ < List.length _; simp only [List.length_set, List.length_append, List.length_take]; omega) | (show wantB _ _ = true; simp; done) | (show wantB _ _ = true; simp; omega) | (show (_ : Bool) = _; simp_all; done) | (exfalso; omega) | refine aRegion_auto (by decide +kernel) ?_ | fail))
    apply exEff
    · (repeat' (first | refine And.intro ?_ ?_ | omega))
      refine acall_conv [.dat RasT, .keep] _ _ _ rfl trivial (acall_frame0 rfl (acall_arg (cellsAround_any _ a R c (by omega) _ ?_) ?_))
      · rw [← hnb]
        exact ⟨rfl, rfl⟩
      · exact congrArg (fun z => [AV.fz RasT a, AV.fz int z]) (show (c : Int) = List.getD (natL l) (0 + Int.toNat (k : Int)) int.dft by rw [Nat.zero_add, Int.toNat_natCast, List.getD_eq_getElem?_getD, gc])
    (repeat' (first | exact trivial | exact fun h => h | refine And.intro ?_ ?_ | (intro hb; first | (simp at hb; done) | (simp at hb) | skip) | omega | exact rfl | exact Nat.le_refl _ | (show _ + 1 ≤ 4294967296; omega) | (dsimp only; omega) | (show (_ : Int) ≤ (_ : Int); omega) | (show _ < List.length _; simp only [List.length_set, List.length_append, List.length_take]; omega) | (show wantB _ _ = true; simp; done) | (show wantB _ _ = true; simp; omega) | (show (_ : Bool) = _; simp_all; done) | (exfalso; omega) | refine aRegion_auto (by decide +kernel) ?_ | fail))
    refine ⟨List Nat × Nat, fun x => ⟨[(2, .ref 3 0 n), (3, fn), (4, .ptr 4 0), (9, .ref 5 0 x.1.length), (10, .fz int k), (29, .fz (.list int) (natL nb)), (30, .fz int nb.length), (31, .fz int x.2)], [.box [.ref 3 0 n], bF, bA, .row .bool (lstb n (glF a fl o i x.1)), bA, .row int (natL x.1)]⟩, fun x => Lk.BI n (wetF a fl) (touchN w) o i x.1 k ∧ k < x.1.length ∧ x.1.getD k 0 = c ∧ x.2 ≤ nb.length ∧ ∀ q, q < x.2 → wetF a fl (nb.getD q 0) = true → nb.getD q 0 ∈ x.1, fun x => nb.length - x.2, (l, 0), ⟨hB, hk, hc.symm, Nat.zero_le _, fun q hq => absurd hq (Nat.not_lt_zero _)⟩, Ent.sub rfl ?_, ?_⟩
    · (repeat' (first | exact trivial | exact rfl | refine And.intro ?_ ?_))
      exact congrArg (fun z : Nat => AV.fz int (z : Int)) (natL_len nb)
    clear hlk hln hnl hgl hc hcl gc
    rintro ⟨l, p⟩ ⟨hB, hk, hc, hp, hq⟩
    have hB : Lk.BI n (wetF a fl) (touchN w) o i l k := hB
    have hk : k < l.length := hk
    have hc : l.getD k 0 = c := hc
    have hp : p ≤ nb.length := hp
    have hq : ∀ q, q < p → wetF a fl (nb.getD q 0) = true → nb.getD q 0 ∈ l := hq
    have hln := hB.len
    have hnl := natL_len l
    have hgl := lstb_len n (glF a fl o i l)
    have hnn := natL_len nb
    show awp _ _ _ ⟨[(2, .ref 3 0 n), (3, fn), (4, .ptr 4 0), (9, .ref 5 0 l.length), (10, .fz int k), (29, .fz (.list int) (natL nb)), (30, .fz int nb.length), (31, .fz int p)], [.box [.ref 3 0 n], bF, bA, .row .bool (lstb n (glF a fl o i l)), bA, .row int (natL l)]⟩
    by_cases hp2 : p < nb.length
    · obtain ⟨m, hm⟩ : ∃ m, m = nb.getD p 0 := ⟨_, rfl⟩
      have hmn : m ∈ nb := by rw [hm, ← List.getElem_eq_getD (h := hp2)]; exact List.getElem_mem _
      obtain ⟨m1, m2⟩ := (am m).1 hmn
      rw [← hn] at m1
      have gm : (natL nb)[p]?.getD int.dft = (m : Int) := by rw [natL_get nb hp2, hm, List.getElem_eq_getD]
      have gm' : List.getD (natL nb) (Int.toNat (p : Int)) int.dft = (m : Int) := by rw [Int.toNat_natCast, List.getD_eq_getElem?_getD, gm]
      have om : wetF a fl m = true → o m = i := fun wm => by
        have := ho.same (fun _ _ h => touchN_symm h) (Lk.Rch.step (.refl hcn wc) m2 m1 wm)
        omega
      (repeat' (first | exact trivial | exact fun h => h | refine And.intro ?_ ?_ | (intro hb; first | (simp at hb; done) | (simp at hb) | skip) | omega | exact rfl | exact Nat.le_refl _ | (show _ + 1 ≤ 4294967296; omega) | (dsimp only; omega) | (show (_ : Int) ≤ (_ : Int); omega) | (show _ < List.length _; simp only [List.length_set, List.length_append, List.length_take]; omega) | (show wantB _ _ = true; simp; done) | (show wantB _ _ = true; simp; omega) | (show (_ : Bool) = _; simp_all; done) | (exfalso; omega) | refine aRegion_auto (by decide +kernel) ?_ | fail))
      rw [gm']
      refine acall_frame [0, 1, 2, 3] (lkA a n W H fl (lstb n (glF a fl o i l))) [.fz int m, .ptr 1 0, .ptr 2 0, .ptr 0 0] rfl (by repeat' (first | exact rfl | exact trivial | refine And.intro ?_ ?_)) (by repeat' (first | exact rfl | exact trivial | refine And.intro ?_ ?_)) rfl (wet_any _ a n W H fl (glF a fl o i l) hl (by omega) m m1 _ ?_)
      obtain ⟨v, hv⟩ : ∃ v, v = (wetF a fl m && !(glF a fl o i l m)) := ⟨_, rfl⟩
      rw [← hv]
      have hin : v = false → wetF a fl m = true → m ∈ l := fun e wm => by
        rw [e, wm] at hv
        have hg : glF a fl o i l m = true := by simpa using hv.symm
        unfold glF Lk.goneB at hg
        have := om wm
        simp only [Bool.or_eq_true, Bool.and_eq_true, decide_eq_true_eq] at hg
        rcases hg with h | h
        · omega
        · exact h
      cases v
      · (repeat' (first | exact trivial | exact fun h => h | refine And.intro ?_ ?_ | (intro hb; first | (simp at hb; done) | (simp at hb) | skip) | omega | exact rfl | exact Nat.le_refl _ | (show _ + 1 ≤ 4294967296; omega) | (dsimp only; omega) | (show (_ : Int) ≤ (_ : Int); omega) | (show _ < List.length _; simp only [List.length_set, List.length_append, List.length_take]; omega) | (show wantB _ _ = true; simp; done) | (show wantB _ _ = true; simp; omega) | (show (_ : Bool) = _; simp_all; done) | (exfalso; omega) | refine aRegion_auto (by decide +kernel) ?_ | fail))
        refine ⟨(l, p + 1), ⟨hB, hk, hc, hp2, fun q q1 q2 => ?_⟩, by show nb.length - (p + 1) < nb.length - p; omega, Ent.sub rfl ?_⟩
        · have q1 : q < p + 1 := q1
          by_cases e : q = p
          · rw [e, ← hm] at q2 ⊢; exact hin rfl q2
          · exact hq q (by omega) q2
        · (repeat' (first | exact trivial | exact rfl | refine And.intro ?_ ?_))
      · have hwm : wetF a fl m = true := by
          cases e : wetF a fl m
          · rw [e] at hv; cases hv
          · rfl
        have hml : m ∉ l := fun h => by
          rw [hwm, show glF a fl o i l m = true by unfold glF; simp [h]] at hv
          cases hv
        have hgn := lstb_len n (glF a fl o i l)
        (repeat' (first | exact trivial | exact fun h => h | refine And.intro ?_ ?_ | (intro hb; first | (simp at hb; done) | (simp at hb) | skip) | omega | exact rfl | exact Nat.le_refl _ | (show _ + 1 ≤ 4294967296; omega) | (dsimp only; omega) | (show (_ : Int) ≤ (_ : Int); omega) | (show _ < List.length _; simp only [List.length_set, List.length_append, List.length_take]; omega) | (show wantB _ _ = true; simp; done) | (show wantB _ _ = true; simp; omega) | (show (_ : Bool) = _; simp_all; done) | (exfalso; omega) | refine aRegion_auto (by decide +kernel) ?_ | fail))
        refine ⟨(l ++ [m], p + 1), ⟨hB.add m1 (om hwm) hml, by show k < (l ++ [m]).length; simp; omega, ?_, hp2, fun q q1 q2 => ?_⟩, by show nb.length - (p + 1) < nb.length - p; omega, Ent.ren [0, 1, 2, 3, 4, 7] rfl ?_ ?_⟩
        · show (l ++ [m]).getD k 0 = c
          rw [List.getD_eq_getElem?_getD, List.getElem?_append_left hk, ← List.getD_eq_getElem?_getD, hc]
        · have q1 : q < p + 1 := q1
          show nb.getD q 0 ∈ l ++ [m]
          by_cases e : q = p
          · rw [e, ← hm]; simp
          · exact List.mem_append_left _ (hq q (by omega) q2)
        · (repeat' (first | exact trivial | exact rfl | refine And.intro ?_ ?_))
          · refine congrArg (fun x => some (AO.row .bool x)) (?_ : List.set (lstb n (glF a fl o i l)) (0 + Int.toNat (m : Int)) true = lstb n (glF a fl o i (l ++ [m])))
            rw [Nat.zero_add, Int.toNat_natCast]
            exact glF_add a n fl o i l m
          · refine congrArg (fun x => some (AO.row int x)) (?_ : List.take l.length (natL l) ++ [(m : Int)] = natL (l ++ [m]))
            rw [List.take_of_length_le (by omega), natL_add]
            rfl
        · (repeat' (first | exact trivial | exact rfl | refine And.intro ?_ ?_))
          exact congrArg (AV.ref 7 0) (show l.length + 1 = (l ++ [m]).length by simp)
    · have hp3 : p = nb.length := by omega
      subst hp3
      have hB2 := hB.next hk fun m h1 h2 h3 => by
        rw [hc] at h2
        have hm := (am m).2 ⟨by omega, h2⟩
        obtain ⟨q, q1, q2⟩ := List.mem_iff_getElem.1 hm
        have := hq q q1
        rw [← List.getElem_eq_getD (h := q1), q2] at this
        exact this h3
      (repeat' (first | exact trivial | exact fun h => h | refine And.intro ?_ ?_ | (intro hb; first | (simp at hb; done) | (simp at hb) | skip) | omega | exact rfl | exact Nat.le_refl _ | (show _ + 1 ≤ 4294967296; omega) | (dsimp only; omega) | (show (_ : Int) ≤ (_ : Int); omega) | (show _ < List.length _; simp only [List.length_set, List.length_append, List.length_take]; omega) | (show wantB _ _ = true; simp; done) | (show wantB _ _ = true; simp; omega) | (show (_ : Bool) = _; simp_all; done) | (exfalso; omega) | refine aRegion_auto (by decide +kernel) ?_ | fail))
      refine ⟨(l, k + 1), hB2, by show n - (k + 1) < n - k; omega, Ent.sub rfl ?_⟩
      (repeat' (first | exact trivial | exact rfl | refine And.intro ?_ ?_))
  · have hke : k = l.length := by omega
    subst hke
    have hp := hB.perm ho
    (repeat' (first | exact trivial | exact fun h => h | refine And.intro ?_ ?_ | (intro hb; first | (simp at hb; done) | (simp at hb) | skip) | omega | exact rfl | exact Nat.le_refl _ | (show _ + 1 ≤ 4294967296; omega) | (dsimp only; omega) | (show (_ : Int) ≤ (_ : Int); omega) | (show _ < List.length _; simp only [List.length_set, List.length_append, List.length_take]; omega) | (show wantB _ _ = true; simp; done) | (show wantB _ _ = true; simp; omega) | (show (_ : Bool) = _; simp_all; done) | (exfalso; omega) | refine aRegion_auto (by decide +kernel) ?_ | fail))
    refine acall_frame [5] [.row int (natL l)] [.ref 0 0 l.length] rfl (by repeat' (first | exact rfl | exact trivial | refine And.intro ?_ ?_)) ⟨rfl, rfl⟩ rfl (sort_any _ (natL l) l.length hnl (by omega) _ fun ys y1 y2 => ?_)
    have hys : ys = lakeL n o i := Lk.srt_uniq (y1.trans (hp.map _)) y2 (Lk.cls_sorted o i)
    rw [hys]
    have hlen : (lakeL n o i).length = l.length := by
      have := hp.length_eq
      unfold lakeL
      rw [natL_len, this]
    have hgone : lstb n (glF a fl o i l) = lstb n (Lk.goneB (wetF a fl) o (i + 1)) := lstb_congr fun j hj => by
      rw [Lk.gone_after ho hj]
      unfold glF
      congr 1
      exact decide_eq_decide.2 hp.mem_iff
    (repeat' (first | exact trivial | exact fun h => h | refine And.intro ?_ ?_ | (intro hb; first | (simp at hb; done) | (simp at hb) | skip) | omega | exact rfl | exact Nat.le_refl _ | (show _ + 1 ≤ 4294967296; omega) | (dsimp only; omega) | (show (_ : Int) ≤ (_ : Int); omega) | (show _ < List.length _; simp only [List.length_set, List.length_append, List.length_take]; omega) | (show wantB _ _ = true; simp; done) | (show wantB _ _ = true; simp; omega) | (show (_ : Bool) = _; simp_all; done) | (exfalso; omega) | refine aRegion_auto (by decide +kernel) ?_ | fail))
    refine ⟨.fz (.list int) (lakeL n o i), lkA a n W H fl (lstb n (Lk.goneB (wetF a fl) o (i + 1))), (REnt.conv1 (.dat (.list int)) _ rfl ?_).trans (REnt.ren [0, 1, 2, 3] rfl ?_ ?_), hK⟩
    · show 0 + _ ≤ _
      omega
    · (repeat' (first | exact trivial | exact rfl | refine And.intro ?_ ?_))
      exact congrArg (fun x => some (AO.row .bool x)) hgone
    · (repeat' (first | exact trivial | exact rfl | refine And.intro ?_ ?_))
      exact congrArg (AV.fz (.list int)) (List.take_of_length_le (Nat.le_of_eq hlen))
end Go.Proofs.YtepkknjncpbahaaDoor
