/-
  Sorting numbers: less, insertion.
-/
import Derived.Test.YtgjjooophigkoaaGreatDoorM7
namespace Go.Proofs.YtgjjooophigkoaaGreatDoor
open Go Go.Ab
set_option maxRecDepth 100000
def ltI (x y : Int) : Bool := decide (x < y)
theorem ltI_ok : Pdq.LtOk ltI := ⟨fun x y h => by unfold ltI at *; simp at *; omega, fun x y z h1 h2 => by unfold ltI at *; simp at *; omega⟩
theorem isNaN_any (G : List (Nat × Value)) (x : Int) (K : AV → List AO → Prop) (hK : K (.fz .bool false) []) : ACall Tryz.prog G 89 [.fz int x] [] K := by
  refine acall_mk (E := envAt G 6 0) (envOk _ _ _) Tryz.func89 rfl rfl rfl rfl rfl ?_
  (repeat' (first | exact trivial | exact fun h => h | refine And.intro ?_ ?_ | (intro hb; try simp at hb) | omega | exact rfl | exact Nat.le_refl _ | (show _ + 1 ≤ 4294967296; omega) | (dsimp only; omega) | (show (_ : Int) ≤ (_ : Int); omega) | (show _ < List.length _; simp only [List.length_set, List.length_append, List.length_take]; omega) | (show wantB _ _ = true; simp <;> omega) | (show (_ : Bool) = _; simp_all; done) | (exfalso; omega) | refine aRegion_auto (by decide +kernel) ?_ | refine ⟨_, _, REnt.drop ⟨rfl, rfl⟩, ?_⟩ | fail))
  exact kbl hK (by simp)
theorem less_int (G : List (Nat × Value)) (x y : Int) (K : AV → List AO → Prop) (hK : K (.fz .bool (ltI x y)) []) : ACall Tryz.prog G 150 [.fz int x, .fz int y] [] K := by
  refine acall_mk (E := envAt G 17 0) (envOk _ _ _) Tryz.func150 rfl rfl rfl rfl rfl ?_
  (repeat' (first | exact trivial | exact fun h => h | refine And.intro ?_ ?_ | (intro hb; try simp at hb) | omega | exact rfl | exact Nat.le_refl _ | (show _ + 1 ≤ 4294967296; omega) | (dsimp only; omega) | (show (_ : Int) ≤ (_ : Int); omega) | (show _ < List.length _; simp only [List.length_set, List.length_append, List.length_take]; omega) | (show wantB _ _ = true; simp <;> omega) | (show (_ : Bool) = _; simp_all; done) | (exfalso; omega) | refine aRegion_auto (by decide +kernel) ?_ | refine ⟨_, _, REnt.drop ⟨rfl, rfl⟩, ?_⟩ | fail))
  refine acall_frame0 rfl (isNaN_any _ x _ ?_)
  (repeat' (first | exact trivial | exact fun h => h | refine And.intro ?_ ?_ | (intro hb; try simp at hb) | omega | exact rfl | exact Nat.le_refl _ | (show _ + 1 ≤ 4294967296; omega) | (dsimp only; omega) | (show (_ : Int) ≤ (_ : Int); omega) | (show _ < List.length _; simp only [List.length_set, List.length_append, List.length_take]; omega) | (show wantB _ _ = true; simp <;> omega) | (show (_ : Bool) = _; simp_all; done) | (exfalso; omega) | refine aRegion_auto (by decide +kernel) ?_ | refine ⟨_, _, REnt.drop ⟨rfl, rfl⟩, ?_⟩ | fail))
  exact hK
theorem kal {K : AV → List AO → Prop} {l l' : List Int} (h : K (.tup []) [.row int l]) (e : l = l') : K (.tup []) [.row int l'] := e ▸ h
/-- a swap as it is told by two sets -/
theorem set_sw {xs : List Int} {x y : Int} {i j : Nat} {u v : Int} (hx : Int.toNat x = i) (hy : Int.toNat y = j) (hu : u = xs.getD j 0) (hv : v = xs.getD i 0) : List.set (List.set xs (0 + Int.toNat x) u) (0 + Int.toNat y) v = Pdq.sw 0 xs i j := by
  subst hu hv hx hy
  rw [Nat.zero_add, Nat.zero_add]; rfl
theorem get_at {xs : List Int} {x : Int} {i : Nat} (h : Int.toNat x = i) : List.getD xs (0 + Int.toNat x) int.dft = xs.getD i 0 := by rw [h, Nat.zero_add]; rfl
theorem get_q {xs : List Int} {i : Nat} : xs[i]?.getD int.dft = xs.getD i 0 := by rw [List.getD_eq_getElem?_getD]; rfl
set_option maxHeartbeats 4000000 in
theorem insertion_any (G : List (Nat × Value)) (xs : List Int) (n a b : Nat) (hn : xs.length = n) (hs : n ≤ 1000000000) (hab : a ≤ b) (hb : b ≤ n) (K : AV → List AO → Prop) (hK : ∀ ys, Pdq.SP 0 a b xs ys → Pdq.Srt ltI 0 a b ys → K (.tup []) [.row int ys]) :
    ACall Tryz.prog G 144 [.ref 0 0 n, .fz int a, .fz int b] [.row int xs] K := by
  refine acall_mk (E := envAt G 49 1) (envOk _ _ _) Tryz.func144 rfl rfl rfl rfl rfl ?_
  (repeat' (first | exact trivial | exact fun h => h | refine And.intro ?_ ?_ | (intro hb; try simp at hb) | omega | exact rfl | exact Nat.le_refl _ | (show _ + 1 ≤ 4294967296; omega) | (dsimp only; omega) | (show (_ : Int) ≤ (_ : Int); omega) | (show _ < List.length _; simp only [List.length_set, List.length_append, List.length_take]; omega) | (show wantB _ _ = true; simp <;> omega) | (show (_ : Bool) = _; simp_all; done) | (exfalso; omega) | refine aRegion_auto (by decide +kernel) ?_ | fail))
  refine ⟨List Int × Nat, fun x => ⟨[(0, .ref 0 0 n), (1, .fz int a), (2, .fz int b), (6, .fz int x.2)], [.row int x.1]⟩, fun x => a + 1 ≤ x.2 ∧ (x.2 ≤ b ∨ x.2 = a + 1) ∧ Pdq.SP 0 a b xs x.1 ∧ Pdq.Srt ltI 0 a x.2 x.1, fun x => b - x.2, (xs, a + 1), ⟨Nat.le_refl _, .inr rfl, .refl _, fun i j h1 h2 h3 => by omega⟩, Ent.sub rfl ?_, ?_⟩
  · (repeat' (first | exact trivial | exact rfl | refine And.intro ?_ ?_))
  rintro ⟨ys, i⟩ ⟨h1, h2, hsp, hsr⟩
  have h1 : a + 1 ≤ i := h1
  have h2 : i ≤ b ∨ i = a + 1 := h2
  have hsp : Pdq.SP 0 a b xs ys := hsp
  have hsr : Pdq.Srt ltI 0 a i ys := hsr
  have hly := hsp.len
  show awp _ _ _ ⟨[(0, .ref 0 0 n), (1, .fz int a), (2, .fz int b), (6, .fz int i)], [.row int ys]⟩
  by_cases hib : i < b
  · (repeat' (first | exact trivial | exact fun h => h | refine And.intro ?_ ?_ | (intro hb; try simp at hb) | omega | exact rfl | exact Nat.le_refl _ | (show _ + 1 ≤ 4294967296; omega) | (dsimp only; omega) | (show (_ : Int) ≤ (_ : Int); omega) | (show _ < List.length _; simp only [List.length_set, List.length_append, List.length_take]; omega) | (show wantB _ _ = true; simp <;> omega) | (show (_ : Bool) = _; simp_all; done) | (exfalso; omega) | refine aRegion_auto (by decide +kernel) ?_ | fail))
    refine ⟨List Int × Nat, fun x => ⟨[(0, .ref 0 0 n), (1, .fz int a), (2, .fz int b), (6, .fz int i), (7, .fz int x.2)], [.row int x.1]⟩, fun x => Pdq.SP 0 a b xs x.1 ∧ Pdq.InsI ltI 0 a x.2 i x.1, fun x => x.2, (ys, i), ⟨hsp, Pdq.ins_start (by omega) hsr⟩, Ent.sub rfl ?_, ?_⟩
    · (repeat' (first | exact trivial | exact rfl | refine And.intro ?_ ?_))
    clear hsp hsr hly
    rintro ⟨zs, j⟩ ⟨hsp, hin⟩
    have hsp : Pdq.SP 0 a b xs zs := hsp
    have hin : Pdq.InsI ltI 0 a j i zs := hin
    have hlz := hsp.len
    have i1 := hin.1
    have i2 := hin.2.1
    show awp _ _ _ ⟨[(0, .ref 0 0 n), (1, .fz int a), (2, .fz int b), (6, .fz int i), (7, .fz int j)], [.row int zs]⟩
    by_cases hja : a < j
    · have q1 : 0 + Int.toNat (j : Int) = j := by omega
      have q2 : 0 + Int.toNat ((j : Int) - 1) = j - 1 := by omega
      (repeat' (first | exact trivial | exact fun h => h | refine And.intro ?_ ?_ | (intro hb; try simp at hb) | omega | exact rfl | exact Nat.le_refl _ | (show _ + 1 ≤ 4294967296; omega) | (dsimp only; omega) | (show (_ : Int) ≤ (_ : Int); omega) | (show _ < List.length _; simp only [List.length_set, List.length_append, List.length_take]; omega) | (show wantB _ _ = true; simp <;> omega) | (show (_ : Bool) = _; simp_all; done) | (exfalso; omega) | refine aRegion_auto (by decide +kernel) ?_ | fail))
      apply exEff
      · refine ⟨fun _ => ?_, fun h => absurd h (by simp; omega)⟩
        (repeat' (first | refine And.intro ?_ ?_ | (show wantB _ _ = true; simp; omega)))
        refine acall_frame0 rfl (less_int _ _ _ _ ?_)
        exact ⟨rfl, rfl⟩
      (repeat' (first | exact trivial | exact fun h => h | refine And.intro ?_ ?_ | (intro hb; try simp at hb) | omega | exact rfl | exact Nat.le_refl _ | (show _ + 1 ≤ 4294967296; omega) | (dsimp only; omega) | (show (_ : Int) ≤ (_ : Int); omega) | (show _ < List.length _; simp only [List.length_set, List.length_append, List.length_take]; omega) | (show wantB _ _ = true; simp <;> omega) | (show (_ : Bool) = _; simp_all; done) | (exfalso; omega) | refine aRegion_auto (by decide +kernel) ?_ | fail))
      · (apply exEff; focus (repeat' (first | exact ⟨rfl, rfl⟩ | exact trivial | refine And.intro ?_ ?_ | omega | exact Nat.le_refl _ | (show _ + 1 ≤ 4294967296; omega))))
        (repeat' (first | exact trivial | exact fun h => h | refine And.intro ?_ ?_ | (intro hb; try simp at hb) | omega | exact rfl | exact Nat.le_refl _ | (show _ + 1 ≤ 4294967296; omega) | (dsimp only; omega) | (show (_ : Int) ≤ (_ : Int); omega) | (show _ < List.length _; simp only [List.length_set, List.length_append, List.length_take]; omega) | (show wantB _ _ = true; simp <;> omega) | (show (_ : Bool) = _; simp_all; done) | (exfalso; omega) | refine aRegion_auto (by decide +kernel) ?_ | fail))
        (apply exEff; focus (repeat' (first | exact ⟨rfl, rfl⟩ | exact trivial | refine And.intro ?_ ?_ | omega | exact Nat.le_refl _ | (show _ + 1 ≤ 4294967296; omega))))
        (repeat' (first | exact trivial | exact fun h => h | refine And.intro ?_ ?_ | (intro hb; try simp at hb) | omega | exact rfl | exact Nat.le_refl _ | (show _ + 1 ≤ 4294967296; omega) | (dsimp only; omega) | (show (_ : Int) ≤ (_ : Int); omega) | (show _ < List.length _; simp only [List.length_set, List.length_append, List.length_take]; omega) | (show wantB _ _ = true; simp <;> omega) | (show (_ : Bool) = _; simp_all; done) | (exfalso; omega) | refine aRegion_auto (by decide +kernel) ?_ | fail))
        have hlt : ltI (zs.getD j 0) (zs.getD (j - 1) 0) = true := by rw [← get_q, ← get_q]; exact hb.2
        refine ⟨(Pdq.sw 0 zs j (j - 1), j - 1), ⟨.step hsp ⟨by omega, by omega⟩ ⟨by omega, by omega⟩ (by omega), Pdq.ins_step ltI_ok hin (by omega) hja hlt⟩, by show j - 1 < j; omega, Ent.sub ?_ ?_⟩
        · (repeat' (first | exact rfl | refine cons_eq ?_ ?_))
          exact congrArg (AO.row int) (set_sw (by omega) (by omega) (get_at (by omega)) (get_at (by omega)))
        · (repeat' (first | exact trivial | exact rfl | refine And.intro ?_ ?_))
          exact congrArg (AV.fz int) (show (j : Int) - 1 = ((j - 1 : Nat) : Int) by omega)
      · have hle : Pdq.le ltI (zs.getD (j - 1) 0) (zs.getD j 0) := by
          have := hb hja
          rw [get_q, get_q] at this
          exact this
        refine ⟨(zs, i + 1), ⟨by show a + 1 ≤ i + 1; omega, .inl (by show i + 1 ≤ b; omega), hsp, Pdq.ins_end ltI_ok hin (.inr ⟨hja, hle⟩)⟩, by show b - (i + 1) < b - i; omega, Ent.sub ?_ ?_⟩
        · (repeat' (first | exact rfl | refine cons_eq ?_ ?_))
        · (repeat' (first | exact trivial | exact rfl | refine And.intro ?_ ?_))
    · (repeat' (first | exact trivial | exact fun h => h | refine And.intro ?_ ?_ | (intro hb; try simp at hb) | omega | exact rfl | exact Nat.le_refl _ | (show _ + 1 ≤ 4294967296; omega) | (dsimp only; omega) | (show (_ : Int) ≤ (_ : Int); omega) | (show _ < List.length _; simp only [List.length_set, List.length_append, List.length_take]; omega) | (show wantB _ _ = true; simp <;> omega) | (show (_ : Bool) = _; simp_all; done) | (exfalso; omega) | refine aRegion_auto (by decide +kernel) ?_ | fail))
      apply exEff
      · refine ⟨fun h => absurd h (by simp; omega), fun _ => ⟨rfl, rfl⟩⟩
      (repeat' (first | exact trivial | exact fun h => h | refine And.intro ?_ ?_ | (intro hb; try simp at hb) | omega | exact rfl | exact Nat.le_refl _ | (show _ + 1 ≤ 4294967296; omega) | (dsimp only; omega) | (show (_ : Int) ≤ (_ : Int); omega) | (show _ < List.length _; simp only [List.length_set, List.length_append, List.length_take]; omega) | (show wantB _ _ = true; simp <;> omega) | (show (_ : Bool) = _; simp_all; done) | (exfalso; omega) | refine aRegion_auto (by decide +kernel) ?_ | fail))
      refine ⟨(zs, i + 1), ⟨by show a + 1 ≤ i + 1; omega, .inl (by show i + 1 ≤ b; omega), hsp, Pdq.ins_end ltI_ok hin (.inl (by omega))⟩, by show b - (i + 1) < b - i; omega, Ent.sub ?_ ?_⟩
      · (repeat' (first | exact rfl | refine cons_eq ?_ ?_))
      · (repeat' (first | exact trivial | exact rfl | refine And.intro ?_ ?_))
  · (repeat' (first | exact trivial | exact fun h => h | refine And.intro ?_ ?_ | (intro hb; try simp at hb) | omega | exact rfl | exact Nat.le_refl _ | (show _ + 1 ≤ 4294967296; omega) | (dsimp only; omega) | (show (_ : Int) ≤ (_ : Int); omega) | (show _ < List.length _; simp only [List.length_set, List.length_append, List.length_take]; omega) | (show wantB _ _ = true; simp <;> omega) | (show (_ : Bool) = _; simp_all; done) | (exfalso; omega) | refine aRegion_auto (by decide +kernel) ?_ | fail))
    refine ⟨_, _, REnt.refl _ _ _, hK ys hsp fun p q k1 k2 k3 => hsr p q k1 k2 (by omega)⟩
end Go.Proofs.YtgjjooophigkoaaGreatDoor
/-
  Sorting numbers: heaps.
-/
namespace Go.Proofs.YtgjjooophigkoaaGreatDoor
open Go Go.Ab
set_option maxRecDepth 100000
/-- branches that join at a cut -/
structure Bx (c : Prop) : Prop where
  out : c
theorem merge {c g : Prop} (f : Bx c → g) (h : c) : g := f ⟨h⟩
set_option maxHeartbeats 4000000 in
theorem siftDown_any (G : List (Nat × Value)) (xs : List Int) (n lo hi f : Nat) (hn : xs.length = n) (hs : n ≤ 1000000000) (hf : f + hi ≤ n) (hlo : lo ≤ n) (hH : Pdq.Hp ltI 0 f (lo + 1) hi xs) (K : AV → List AO → Prop) (hK : ∀ ys, Pdq.SP 0 f (f + hi) xs ys → Pdq.Hp ltI 0 f lo hi ys → K (.tup []) [.row int ys]) :
    ACall Tryz.prog G 182 [.ref 0 0 n, .fz int lo, .fz int hi, .fz int f] [.row int xs] K := by
  refine acall_mk (E := envCut G 76 1 [5]) (envCutOk _ _ _ _) Tryz.func182 rfl rfl rfl rfl rfl ?_
  (repeat' (first | exact trivial | exact fun h => h | refine And.intro ?_ ?_ | (intro hb; try simp at hb) | omega | exact rfl | exact Nat.le_refl _ | (show _ + 1 ≤ 4294967296; omega) | (dsimp only; omega) | (show (_ : Int) ≤ (_ : Int); omega) | (show _ < List.length _; simp only [List.length_set, List.length_append, List.length_take]; omega) | (show wantB _ _ = true; simp <;> omega) | (show (_ : Bool) = _; simp_all; done) | (exfalso; omega) | refine aRegion_auto (by decide +kernel) ?_ | fail))
  refine ⟨List Int × Nat, fun x => ⟨[(0, .ref 0 0 n), (1, .fz int lo), (2, .fz int hi), (3, .fz int f), (8, .fz int x.2)], [.row int x.1]⟩, fun x => x.2 ≤ n ∧ Pdq.SP 0 f (f + hi) xs x.1 ∧ Pdq.SfI ltI 0 f lo hi x.2 x.1, fun x => n + 1 - x.2, (xs, lo), ⟨hlo, .refl _, Pdq.sift_start hH⟩, Ent.sub rfl ?_, ?_⟩
  · (repeat' (first | exact trivial | exact rfl | refine And.intro ?_ ?_))
  rintro ⟨ys, r⟩ ⟨hr, hsp, hsf⟩
  have hr : r ≤ n := hr
  have hsp : Pdq.SP 0 f (f + hi) xs ys := hsp
  have hsf : Pdq.SfI ltI 0 f lo hi r ys := hsf
  have hly := hsp.len
  show awp _ _ _ ⟨[(0, .ref 0 0 n), (1, .fz int lo), (2, .fz int hi), (3, .fz int f), (8, .fz int r)], [.row int ys]⟩
  by_cases hc : 2 * r + 1 < hi
  · obtain ⟨c, ec⟩ : ∃ c, c = if 2 * r + 2 < hi ∧ ltI (ys.getD (f + (2 * r + 1)) 0) (ys.getD (f + (2 * r + 2)) 0) = true then 2 * r + 2 else 2 * r + 1 := ⟨_, rfl⟩
    have hch : Pdq.ch r c := by rw [ec]; unfold Pdq.ch; split <;> omega
    have hchi : c < hi := by rw [ec]; split <;> omega
    have hmax : ∀ o, Pdq.ch r o → o < hi → Pdq.le ltI (Pdq.gf 0 f ys o) (Pdq.gf 0 f ys c) := fun o ho hoh => by
      rw [ec]
      by_cases h : 2 * r + 2 < hi ∧ ltI (ys.getD (f + (2 * r + 1)) 0) (ys.getD (f + (2 * r + 2)) 0) = true
      · rw [if_pos h]
        rcases ho with rfl | rfl
        · exact Pdq.le_of_lt ltI_ok h.2
        · exact Pdq.le_refl ltI_ok _
      · rw [if_neg h]
        rcases ho with rfl | rfl
        · exact Pdq.le_refl ltI_ok _
        · exact Pdq.not_lt fun h2 => h ⟨hoh, h2⟩
    apply merge
    · intro mc
      by_cases hc2 : 2 * r + 2 < hi
      · (repeat' (first | exact trivial | exact fun h => h | refine And.intro ?_ ?_ | (intro hb; try simp at hb) | omega | exact rfl | exact Nat.le_refl _ | (show _ + 1 ≤ 4294967296; omega) | (dsimp only; omega) | (show (_ : Int) ≤ (_ : Int); omega) | (show _ < List.length _; simp only [List.length_set, List.length_append, List.length_take]; omega) | (show wantB _ _ = true; simp <;> omega) | (show (_ : Bool) = _; simp_all; done) | (exfalso; omega) | refine aRegion_auto (by decide +kernel) ?_ | fail))
        apply exEff
        · refine ⟨fun _ => ?_, fun h => absurd h (by simp; omega)⟩
          (repeat' (first | refine And.intro ?_ ?_ | (show wantB _ _ = true; simp; omega)))
          refine acall_frame0 rfl (less_int _ _ _ _ ?_)
          exact ⟨rfl, rfl⟩
        have e1 : Int.toNat ((f : Int) + (2 * (r : Int) + 1)) = f + (2 * r + 1) := by omega
        have e2 : Int.toNat ((f : Int) + (2 * (r : Int) + 1) + 1) = f + (2 * r + 2) := by omega
        (repeat' (first | exact trivial | exact fun h => h | refine And.intro ?_ ?_ | (intro hb; try simp at hb) | omega | exact rfl | exact Nat.le_refl _ | (show _ + 1 ≤ 4294967296; omega) | (dsimp only; omega) | (show (_ : Int) ≤ (_ : Int); omega) | (show _ < List.length _; simp only [List.length_set, List.length_append, List.length_take]; omega) | (show wantB _ _ = true; simp <;> omega) | (show (_ : Bool) = _; simp_all; done) | (exfalso; omega) | refine aRegion_auto (by decide +kernel) ?_ | fail))
        · rw [e1, e2, get_q, get_q] at hb
          have e : c = 2 * r + 2 := by rw [ec, if_pos ⟨hc2, hb.2⟩]
          refine ⟨[(0, .ref 0 0 n), (1, .fz int lo), (2, .fz int hi), (3, .fz int f), (8, .fz int r), (9, .fz int c)], [.row int ys], Ent.sub rfl ?_, mc.out⟩
          rw [e]
          (repeat' (first | exact trivial | exact rfl | refine And.intro ?_ ?_))
        · rw [e1, e2, get_q, get_q] at hb
          have e : c = 2 * r + 1 := by rw [ec, if_neg (fun h => by have := hb (by omega); rw [h.2] at this; cases this)]
          refine ⟨[(0, .ref 0 0 n), (1, .fz int lo), (2, .fz int hi), (3, .fz int f), (8, .fz int r), (9, .fz int c)], [.row int ys], Ent.sub rfl ?_, mc.out⟩
          rw [e]
          (repeat' (first | exact trivial | exact rfl | refine And.intro ?_ ?_))
      · have e : c = 2 * r + 1 := by rw [ec, if_neg (fun h => hc2 h.1)]
        (repeat' (first | exact trivial | exact fun h => h | refine And.intro ?_ ?_ | (intro hb; try simp at hb) | omega | exact rfl | exact Nat.le_refl _ | (show _ + 1 ≤ 4294967296; omega) | (dsimp only; omega) | (show (_ : Int) ≤ (_ : Int); omega) | (show _ < List.length _; simp only [List.length_set, List.length_append, List.length_take]; omega) | (show wantB _ _ = true; simp <;> omega) | (show (_ : Bool) = _; simp_all; done) | (exfalso; omega) | refine aRegion_auto (by decide +kernel) ?_ | fail))
        apply exEff
        · refine ⟨fun h => absurd h (by simp; omega), fun _ => ⟨rfl, rfl⟩⟩
        (repeat' (first | exact trivial | exact fun h => h | refine And.intro ?_ ?_ | (intro hb; try simp at hb) | omega | exact rfl | exact Nat.le_refl _ | (show _ + 1 ≤ 4294967296; omega) | (dsimp only; omega) | (show (_ : Int) ≤ (_ : Int); omega) | (show _ < List.length _; simp only [List.length_set, List.length_append, List.length_take]; omega) | (show wantB _ _ = true; simp <;> omega) | (show (_ : Bool) = _; simp_all; done) | (exfalso; omega) | refine aRegion_auto (by decide +kernel) ?_ | fail))
        all_goals first | (simp; omega) | skip
        refine ⟨[(0, .ref 0 0 n), (1, .fz int lo), (2, .fz int hi), (3, .fz int f), (8, .fz int r), (9, .fz int c)], [.row int ys], Ent.sub rfl ?_, mc.out⟩
        rw [e]
        (repeat' (first | exact trivial | exact rfl | refine And.intro ?_ ?_))
    have g1 : Int.toNat ((f : Int) + (r : Int)) = f + r := by omega
    have g2 : Int.toNat ((f : Int) + (c : Int)) = f + c := by omega
    have hrc : r < c := by unfold Pdq.ch at hch; omega
    (repeat' (first | exact trivial | exact fun h => h | refine And.intro ?_ ?_ | (intro hb; try simp at hb) | omega | exact rfl | exact Nat.le_refl _ | (show _ + 1 ≤ 4294967296; omega) | (dsimp only; omega) | (show (_ : Int) ≤ (_ : Int); omega) | (show _ < List.length _; simp only [List.length_set, List.length_append, List.length_take]; omega) | (show wantB _ _ = true; simp <;> omega) | (show (_ : Bool) = _; simp_all; done) | (exfalso; omega) | refine aRegion_auto (by decide +kernel) ?_ | fail))
    apply exEff
    · (repeat' (first | refine And.intro ?_ ?_ | omega))
      refine acall_frame0 rfl (less_int _ _ _ _ ?_)
      exact ⟨rfl, rfl⟩
    (repeat' (first | exact trivial | exact fun h => h | refine And.intro ?_ ?_ | (intro hb; try simp at hb) | omega | exact rfl | exact Nat.le_refl _ | (show _ + 1 ≤ 4294967296; omega) | (dsimp only; omega) | (show (_ : Int) ≤ (_ : Int); omega) | (show _ < List.length _; simp only [List.length_set, List.length_append, List.length_take]; omega) | (show wantB _ _ = true; simp <;> omega) | (show (_ : Bool) = _; simp_all; done) | (exfalso; omega) | refine aRegion_auto (by decide +kernel) ?_ | fail))
    · rw [g1, g2, get_q, get_q] at hb
      refine ⟨_, _, REnt.refl _ _ _, hK ys hsp (Pdq.sift_stop hsf fun o h1 h2 => Pdq.le_trans ltI_ok (hmax o h1 h2) hb)⟩
    · rw [g1, g2, get_q, get_q] at hb
      (apply exEff; focus (repeat' (first | exact ⟨rfl, rfl⟩ | exact trivial | refine And.intro ?_ ?_ | omega | exact Nat.le_refl _ | (show _ + 1 ≤ 4294967296; omega))))
      (repeat' (first | exact trivial | exact fun h => h | refine And.intro ?_ ?_ | (intro hb; try simp at hb) | omega | exact rfl | exact Nat.le_refl _ | (show _ + 1 ≤ 4294967296; omega) | (dsimp only; omega) | (show (_ : Int) ≤ (_ : Int); omega) | (show _ < List.length _; simp only [List.length_set, List.length_append, List.length_take]; omega) | (show wantB _ _ = true; simp <;> omega) | (show (_ : Bool) = _; simp_all; done) | (exfalso; omega) | refine aRegion_auto (by decide +kernel) ?_ | fail))
      (apply exEff; focus (repeat' (first | exact ⟨rfl, rfl⟩ | exact trivial | refine And.intro ?_ ?_ | omega | exact Nat.le_refl _ | (show _ + 1 ≤ 4294967296; omega))))
      (repeat' (first | exact trivial | exact fun h => h | refine And.intro ?_ ?_ | (intro hb; try simp at hb) | omega | exact rfl | exact Nat.le_refl _ | (show _ + 1 ≤ 4294967296; omega) | (dsimp only; omega) | (show (_ : Int) ≤ (_ : Int); omega) | (show _ < List.length _; simp only [List.length_set, List.length_append, List.length_take]; omega) | (show wantB _ _ = true; simp <;> omega) | (show (_ : Bool) = _; simp_all; done) | (exfalso; omega) | refine aRegion_auto (by decide +kernel) ?_ | fail))
      refine ⟨(Pdq.sw 0 ys (f + r) (f + c), c), ⟨by show c ≤ n; omega, .step hsp ⟨by omega, by omega⟩ ⟨by omega, by omega⟩ (by omega), Pdq.sift_step ltI_ok hsf (by omega) hch hchi hmax hb⟩, by show n + 1 - c < n + 1 - r; omega, Ent.sub ?_ ?_⟩
      · (repeat' (first | exact rfl | refine cons_eq ?_ ?_))
        exact congrArg (AO.row int) (set_sw (by omega) (by omega) (get_at (by omega)) (get_at (by omega)))
      · (repeat' (first | exact trivial | exact rfl | refine And.intro ?_ ?_))
  · (repeat' (first | exact trivial | exact fun h => h | refine And.intro ?_ ?_ | (intro hb; try simp at hb) | omega | exact rfl | exact Nat.le_refl _ | (show _ + 1 ≤ 4294967296; omega) | (dsimp only; omega) | (show (_ : Int) ≤ (_ : Int); omega) | (show _ < List.length _; simp only [List.length_set, List.length_append, List.length_take]; omega) | (show wantB _ _ = true; simp <;> omega) | (show (_ : Bool) = _; simp_all; done) | (exfalso; omega) | refine aRegion_auto (by decide +kernel) ?_ | fail))
    refine ⟨_, _, REnt.refl _ _ _, hK ys hsp (Pdq.sift_stop hsf fun c h1 h2 => by unfold Pdq.ch at h1; omega)⟩
end Go.Proofs.YtgjjooophigkoaaGreatDoor
/-
  Sorting numbers: heap sort, a range turned around.
-/
namespace Go.Proofs.YtgjjooophigkoaaGreatDoor
open Go Go.Ab
set_option maxRecDepth 100000
theorem acall_with {P : Program} {G : List (Nat × Value)} {f : FuncId} {args args' : List AV} {A A' : List AO} {K : AV → List AO → Prop} (h : ACall P G f args A K) (e : args = args') (e2 : A = A') : ACall P G f args' A' K := e ▸ e2 ▸ h
set_option maxHeartbeats 4000000 in
theorem heapSort_any (G : List (Nat × Value)) (xs : List Int) (n a b : Nat) (hn : xs.length = n) (hs : n ≤ 1000000000) (hab : a ≤ b) (hb : b ≤ n) (K : AV → List AO → Prop) (hK : ∀ ys, Pdq.SP 0 a b xs ys → Pdq.Srt ltI 0 a b ys → K (.tup []) [.row int ys]) :
    ACall Tryz.prog G 145 [.ref 0 0 n, .fz int a, .fz int b] [.row int xs] K := by
  obtain ⟨hi, ehi⟩ : ∃ hi, b = a + hi := ⟨b - a, by omega⟩
  have hq : Int.tdiv ((b : Int) - (a : Int) - 1) 2 = (((hi - 1) / 2 : Nat) : Int) := by
    by_cases h0 : hi = 0
    · subst h0
      rw [show (b : Int) - a - 1 = -1 by omega]
      rfl
    · rw [Int.tdiv_eq_ediv_of_nonneg (by omega)]; omega
  refine acall_mk (E := envAt G 56 1) (envOk _ _ _) Tryz.func145 rfl rfl rfl rfl rfl ?_
  (repeat' (first | exact trivial | exact fun h => h | refine And.intro ?_ ?_ | (intro hb; try simp at hb) | omega | exact rfl | exact Nat.le_refl _ | (show _ + 1 ≤ 4294967296; omega) | (dsimp only; omega) | (show (_ : Int) ≤ (_ : Int); omega) | (show _ < List.length _; simp only [List.length_set, List.length_append, List.length_take]; omega) | (show wantB _ _ = true; simp <;> omega) | (show (_ : Bool) = _; simp_all; done) | (exfalso; omega) | refine aRegion_auto (by decide +kernel) ?_ | fail))
  refine ⟨List Int × Nat, fun x => ⟨[(0, .ref 0 0 n), (6, .fz int a), (7, .fz int 0), (8, .fz int hi), (9, .fz int ((x.2 : Int) - 1))], [.row int x.1]⟩, fun x => x.2 ≤ n + 1 ∧ Pdq.SP 0 a b xs x.1 ∧ Pdq.Hp ltI 0 a x.2 hi x.1, fun x => x.2, (xs, (hi - 1) / 2 + 1), ⟨by show _ ≤ n + 1; omega, .refl _, fun r c h1 h2 h3 => by have h1 : (hi - 1) / 2 + 1 ≤ r := h1; unfold Pdq.ch at h2; omega⟩, Ent.sub rfl ?_, ?_⟩
  · (repeat' (first | exact trivial | exact rfl | refine And.intro ?_ ?_))
    · exact congrArg (AV.fz int) (show (b : Int) - a = hi by omega)
    · exact congrArg (AV.fz int) (show Int.tdiv ((b : Int) - (a : Int) - 1) 2 = (((hi - 1) / 2 + 1 : Nat) : Int) - 1 by rw [hq]; omega)
  rintro ⟨ys, k⟩ ⟨hk, hsp, hh⟩
  have hk : k ≤ n + 1 := hk
  have hsp : Pdq.SP 0 a b xs ys := hsp
  have hh : Pdq.Hp ltI 0 a k hi ys := hh
  have hly := hsp.len
  show awp _ _ _ ⟨[(0, .ref 0 0 n), (6, .fz int a), (7, .fz int 0), (8, .fz int hi), (9, .fz int ((k : Int) - 1))], [.row int ys]⟩
  by_cases hk0 : 0 < k
  · (repeat' (first | exact trivial | exact fun h => h | refine And.intro ?_ ?_ | (intro hb; try simp at hb) | omega | exact rfl | exact Nat.le_refl _ | (show _ + 1 ≤ 4294967296; omega) | (dsimp only; omega) | (show (_ : Int) ≤ (_ : Int); omega) | (show _ < List.length _; simp only [List.length_set, List.length_append, List.length_take]; omega) | (show wantB _ _ = true; simp <;> omega) | (show (_ : Bool) = _; simp_all; done) | (exfalso; omega) | refine aRegion_auto (by decide +kernel) ?_ | fail))
    refine acall_arg (siftDown_any _ ys n (k - 1) hi a (by omega) hs (by omega) (by omega) (by rw [show k - 1 + 1 = k by omega]; exact hh) _ fun zs z1 z2 => ?_) (congrArg (fun z => [AV.ref 0 0 n, AV.fz int z, AV.fz int hi, AV.fz int a]) (show ((k - 1 : Nat) : Int) = (k : Int) - 1 by omega))
    (repeat' (first | exact trivial | exact fun h => h | refine And.intro ?_ ?_ | (intro hb; try simp at hb) | omega | exact rfl | exact Nat.le_refl _ | (show _ + 1 ≤ 4294967296; omega) | (dsimp only; omega) | (show (_ : Int) ≤ (_ : Int); omega) | (show _ < List.length _; simp only [List.length_set, List.length_append, List.length_take]; omega) | (show wantB _ _ = true; simp <;> omega) | (show (_ : Bool) = _; simp_all; done) | (exfalso; omega) | refine aRegion_auto (by decide +kernel) ?_ | fail))
    refine ⟨(zs, k - 1), ⟨by show k - 1 ≤ n + 1; omega, hsp.trans (ehi ▸ z1), z2⟩, by show k - 1 < k; omega, Ent.sub rfl ?_⟩
    (repeat' (first | exact trivial | exact rfl | refine And.intro ?_ ?_))
    exact congrArg (AV.fz int) (show (k : Int) - 1 - 1 = ((k - 1 : Nat) : Int) - 1 by omega)
  · have hk0 : k = 0 := by omega
    subst hk0
    (repeat' (first | exact trivial | exact fun h => h | refine And.intro ?_ ?_ | (intro hb; try simp at hb) | omega | exact rfl | exact Nat.le_refl _ | (show _ + 1 ≤ 4294967296; omega) | (dsimp only; omega) | (show (_ : Int) ≤ (_ : Int); omega) | (show _ < List.length _; simp only [List.length_set, List.length_append, List.length_take]; omega) | (show wantB _ _ = true; simp <;> omega) | (show (_ : Bool) = _; simp_all; done) | (exfalso; omega) | refine aRegion_auto (by decide +kernel) ?_ | fail))
    refine ⟨List Int × Nat, fun x => ⟨[(0, .ref 0 0 n), (6, .fz int a), (7, .fz int 0), (8, .fz int hi), (10, .fz int ((x.2 : Int) - 1))], [.row int x.1]⟩, fun x => x.2 ≤ hi ∧ Pdq.SP 0 a b xs x.1 ∧ Pdq.PopI ltI 0 a x.2 hi x.1, fun x => x.2, (ys, hi), ⟨Nat.le_refl _, hsp, Pdq.pop_start hh⟩, Ent.sub rfl ?_, ?_⟩
    · (repeat' (first | exact trivial | exact rfl | refine And.intro ?_ ?_))
    clear hsp hh hly
    rintro ⟨zs, k⟩ ⟨hk, hsp, hh⟩
    have hk : k ≤ hi := hk
    have hsp : Pdq.SP 0 a b xs zs := hsp
    have hh : Pdq.PopI ltI 0 a k hi zs := hh
    have hlz := hsp.len
    show awp _ _ _ ⟨[(0, .ref 0 0 n), (6, .fz int a), (7, .fz int 0), (8, .fz int hi), (10, .fz int ((k : Int) - 1))], [.row int zs]⟩
    by_cases hk0 : 0 < k
    · obtain ⟨i, rfl⟩ : ∃ i, k = i + 1 := ⟨k - 1, by omega⟩
      (repeat' (first | exact trivial | exact fun h => h | refine And.intro ?_ ?_ | (intro hb; try simp at hb) | omega | exact rfl | exact Nat.le_refl _ | (show _ + 1 ≤ 4294967296; omega) | (dsimp only; omega) | (show (_ : Int) ≤ (_ : Int); omega) | (show _ < List.length _; simp only [List.length_set, List.length_append, List.length_take]; omega) | (show wantB _ _ = true; simp <;> omega) | (show (_ : Bool) = _; simp_all; done) | (exfalso; omega) | refine aRegion_auto (by decide +kernel) ?_ | fail))
      (apply exEff; focus (repeat' (first | exact ⟨rfl, rfl⟩ | exact trivial | refine And.intro ?_ ?_ | omega | exact Nat.le_refl _ | (show _ + 1 ≤ 4294967296; omega))))
      (repeat' (first | exact trivial | exact fun h => h | refine And.intro ?_ ?_ | (intro hb; try simp at hb) | omega | exact rfl | exact Nat.le_refl _ | (show _ + 1 ≤ 4294967296; omega) | (dsimp only; omega) | (show (_ : Int) ≤ (_ : Int); omega) | (show _ < List.length _; simp only [List.length_set, List.length_append, List.length_take]; omega) | (show wantB _ _ = true; simp <;> omega) | (show (_ : Bool) = _; simp_all; done) | (exfalso; omega) | refine aRegion_auto (by decide +kernel) ?_ | fail))
      (apply exEff; focus (repeat' (first | exact ⟨rfl, rfl⟩ | exact trivial | refine And.intro ?_ ?_ | omega | exact Nat.le_refl _ | (show _ + 1 ≤ 4294967296; omega))))
      (repeat' (first | exact trivial | exact fun h => h | refine And.intro ?_ ?_ | (intro hb; try simp at hb) | omega | exact rfl | exact Nat.le_refl _ | (show _ + 1 ≤ 4294967296; omega) | (dsimp only; omega) | (show (_ : Int) ≤ (_ : Int); omega) | (show _ < List.length _; simp only [List.length_set, List.length_append, List.length_take]; omega) | (show wantB _ _ = true; simp <;> omega) | (show (_ : Bool) = _; simp_all; done) | (exfalso; omega) | refine aRegion_auto (by decide +kernel) ?_ | fail))
      have hbz : b ≤ zs.length := by omega
      obtain ⟨y1, y2⟩ := Pdq.pop_swap ltI_ok hh (by omega) (by omega)
      have hlw := Pdq.sw_len (0 : Int) zs a (a + i)
      refine acall_with (siftDown_any _ (Pdq.sw 0 zs a (a + i)) n 0 i a (by omega) hs (by omega) (by omega) y1 _ fun ws z1 z2 => ?_) ?_ ?_
      rotate_left
      · exact congrArg (fun z => [AV.ref 0 0 n, AV.fz int 0, AV.fz int z, AV.fz int a]) (show (i : Int) = ((i + 1 : Nat) : Int) - 1 by omega)
      · exact congrArg (fun l => [AO.row int l]) (set_sw (by omega) (by omega) (get_at (by omega)) (get_at (by omega))).symm
      (repeat' (first | exact trivial | exact fun h => h | refine And.intro ?_ ?_ | (intro hb; try simp at hb) | omega | exact rfl | exact Nat.le_refl _ | (show _ + 1 ≤ 4294967296; omega) | (dsimp only; omega) | (show (_ : Int) ≤ (_ : Int); omega) | (show _ < List.length _; simp only [List.length_set, List.length_append, List.length_take]; omega) | (show wantB _ _ = true; simp <;> omega) | (show (_ : Bool) = _; simp_all; done) | (exfalso; omega) | refine aRegion_auto (by decide +kernel) ?_ | fail))
      refine ⟨(ws, i), ⟨by show i ≤ hi; omega, (Pdq.SP.step (i := a) (j := a + i) hsp ⟨by omega, by omega⟩ ⟨by omega, by omega⟩ hbz).trans (z1.wide (Nat.le_refl _) (by omega) (by rw [hlw]; omega)), Pdq.pop_next z1 z2 y2⟩, by show i < i + 1; omega, Ent.sub rfl ?_⟩
      (repeat' (first | exact trivial | exact rfl | refine And.intro ?_ ?_))
      exact congrArg (AV.fz int) (show ((i + 1 : Nat) : Int) - 1 - 1 = (i : Int) - 1 by omega)
    · have hk0 : k = 0 := by omega
      subst hk0
      have he := Pdq.pop_end hh
      rw [← ehi] at he
      (repeat' (first | exact trivial | exact fun h => h | refine And.intro ?_ ?_ | (intro hb; try simp at hb) | omega | exact rfl | exact Nat.le_refl _ | (show _ + 1 ≤ 4294967296; omega) | (dsimp only; omega) | (show (_ : Int) ≤ (_ : Int); omega) | (show _ < List.length _; simp only [List.length_set, List.length_append, List.length_take]; omega) | (show wantB _ _ = true; simp <;> omega) | (show (_ : Bool) = _; simp_all; done) | (exfalso; omega) | refine aRegion_auto (by decide +kernel) ?_ | fail))
      refine ⟨_, _, REnt.refl _ _ _, hK zs hsp he⟩
/-- a range turned around: swaps within it -/
theorem reverse_any (G : List (Nat × Value)) (xs : List Int) (n a b : Nat) (hn : xs.length = n) (hs : n ≤ 1000000000) (hab : a ≤ b) (hb : b ≤ n) (K : AV → List AO → Prop) (hK : ∀ ys, Pdq.SP 0 a b xs ys → K (.tup []) [.row int ys]) :
    ACall Tryz.prog G 148 [.ref 0 0 n, .fz int a, .fz int b] [.row int xs] K := by
  refine acall_mk (E := envAt G 32 1) (envOk _ _ _) Tryz.func148 rfl rfl rfl rfl rfl ?_
  (repeat' (first | exact trivial | exact fun h => h | refine And.intro ?_ ?_ | (intro hb; try simp at hb) | omega | exact rfl | exact Nat.le_refl _ | (show _ + 1 ≤ 4294967296; omega) | (dsimp only; omega) | (show (_ : Int) ≤ (_ : Int); omega) | (show _ < List.length _; simp only [List.length_set, List.length_append, List.length_take]; omega) | (show wantB _ _ = true; simp <;> omega) | (show (_ : Bool) = _; simp_all; done) | (exfalso; omega) | refine aRegion_auto (by decide +kernel) ?_ | fail))
  refine ⟨List Int × Nat, fun x => ⟨[(0, .ref 0 0 n), (6, .fz int ((a : Int) + x.2)), (7, .fz int ((b : Int) - 1 - x.2))], [.row int x.1]⟩, fun x => (x.2 ≤ b - a) ∧ Pdq.SP 0 a b xs x.1, fun x => n - x.2, (xs, 0), ⟨Nat.zero_le _, .refl _⟩, Ent.sub rfl ?_, ?_⟩
  · (repeat' (first | exact trivial | exact rfl | refine And.intro ?_ ?_))
    all_goals first | exact congrArg (AV.fz int) (show (a : Int) = (a : Int) + ((0 : Nat) : Int) by omega) | exact congrArg (AV.fz int) (show (b : Int) - 1 = (b : Int) - 1 - ((0 : Nat) : Int) by omega)
  rintro ⟨ys, k⟩ ⟨hk, hsp⟩
  have hk : k ≤ b - a := hk
  have hsp : Pdq.SP 0 a b xs ys := hsp
  have hly := hsp.len
  show awp _ _ _ ⟨[(0, .ref 0 0 n), (6, .fz int ((a : Int) + k)), (7, .fz int ((b : Int) - 1 - k))], [.row int ys]⟩
  by_cases hk0 : (a : Int) + k < (b : Int) - 1 - k
  · (repeat' (first | exact trivial | exact fun h => h | refine And.intro ?_ ?_ | (intro hb; try simp at hb) | omega | exact rfl | exact Nat.le_refl _ | (show _ + 1 ≤ 4294967296; omega) | (dsimp only; omega) | (show (_ : Int) ≤ (_ : Int); omega) | (show _ < List.length _; simp only [List.length_set, List.length_append, List.length_take]; omega) | (show wantB _ _ = true; simp <;> omega) | (show (_ : Bool) = _; simp_all; done) | (exfalso; omega) | refine aRegion_auto (by decide +kernel) ?_ | fail))
    (apply exEff; focus (repeat' (first | exact ⟨rfl, rfl⟩ | exact trivial | refine And.intro ?_ ?_ | omega | exact Nat.le_refl _ | (show _ + 1 ≤ 4294967296; omega))))
    (repeat' (first | exact trivial | exact fun h => h | refine And.intro ?_ ?_ | (intro hb; try simp at hb) | omega | exact rfl | exact Nat.le_refl _ | (show _ + 1 ≤ 4294967296; omega) | (dsimp only; omega) | (show (_ : Int) ≤ (_ : Int); omega) | (show _ < List.length _; simp only [List.length_set, List.length_append, List.length_take]; omega) | (show wantB _ _ = true; simp <;> omega) | (show (_ : Bool) = _; simp_all; done) | (exfalso; omega) | refine aRegion_auto (by decide +kernel) ?_ | fail))
    (apply exEff; focus (repeat' (first | exact ⟨rfl, rfl⟩ | exact trivial | refine And.intro ?_ ?_ | omega | exact Nat.le_refl _ | (show _ + 1 ≤ 4294967296; omega))))
    (repeat' (first | exact trivial | exact fun h => h | refine And.intro ?_ ?_ | (intro hb; try simp at hb) | omega | exact rfl | exact Nat.le_refl _ | (show _ + 1 ≤ 4294967296; omega) | (dsimp only; omega) | (show (_ : Int) ≤ (_ : Int); omega) | (show _ < List.length _; simp only [List.length_set, List.length_append, List.length_take]; omega) | (show wantB _ _ = true; simp <;> omega) | (show (_ : Bool) = _; simp_all; done) | (exfalso; omega) | refine aRegion_auto (by decide +kernel) ?_ | fail))
    refine ⟨(Pdq.sw 0 ys (a + k) (b - 1 - k), k + 1), ⟨by show k + 1 ≤ b - a; omega, .step hsp ⟨by omega, by omega⟩ ⟨by omega, by omega⟩ (by omega)⟩, by show n - (k + 1) < n - k; omega, Ent.sub ?_ ?_⟩
    · (repeat' (first | exact rfl | refine cons_eq ?_ ?_))
      exact congrArg (AO.row int) (set_sw (by omega) (by omega) (get_at (by omega)) (get_at (by omega)))
    · (repeat' (first | exact trivial | exact rfl | refine And.intro ?_ ?_))
      all_goals first | exact congrArg (AV.fz int) (show (a : Int) + (k : Int) + 1 = (a : Int) + ((k + 1 : Nat) : Int) by omega) | exact congrArg (AV.fz int) (show (b : Int) - 1 - (k : Int) - 1 = (b : Int) - 1 - ((k + 1 : Nat) : Int) by omega)
  · (repeat' (first | exact trivial | exact fun h => h | refine And.intro ?_ ?_ | (intro hb; try simp at hb) | omega | exact rfl | exact Nat.le_refl _ | (show _ + 1 ≤ 4294967296; omega) | (dsimp only; omega) | (show (_ : Int) ≤ (_ : Int); omega) | (show _ < List.length _; simp only [List.length_set, List.length_append, List.length_take]; omega) | (show wantB _ _ = true; simp <;> omega) | (show (_ : Bool) = _; simp_all; done) | (exfalso; omega) | refine aRegion_auto (by decide +kernel) ?_ | fail))
    refine ⟨_, _, REnt.refl _ _ _, hK ys hsp⟩
end Go.Proofs.YtgjjooophigkoaaGreatDoor
/-
  Sorting numbers: the choice of a pivot.
-/
namespace Go.Proofs.YtgjjooophigkoaaGreatDoor
open Go Go.Ab
set_option maxRecDepth 100000
set_option maxHeartbeats 4000000 in
theorem order2_any (G : List (Nat × Value)) (xs : List Int) (n i j : Nat) (s : Int) (hn : xs.length = n) (hs : n ≤ 1000000000) (hi : i < n) (hj : j < n) (h0 : 0 ≤ s) (h1 : s ≤ 100) (K : AV → List AO → Prop) (hK : ∀ (i' j' : Nat) (s' : Int), (i' = i ∧ j' = j) ∨ (i' = j ∧ j' = i) → s ≤ s' → s' ≤ s + 1 → K (.tup [.fz int i', .fz int j']) [.row int xs, .box [.fz int s']]) :
    ACall Tryz.prog G 201 [.ref 0 0 n, .fz int i, .fz int j, .ptr 1 0] [.row int xs, .box [.fz int s]] K := by
  refine acall_mk (E := envAt G 28 2) (envOk _ _ _) Tryz.func201 rfl rfl rfl rfl rfl ?_
  (repeat' (first | exact trivial | exact fun h => h | refine And.intro ?_ ?_ | (intro hb; try simp at hb) | omega | exact rfl | exact Nat.le_refl _ | (show _ + 1 ≤ 4294967296; omega) | (dsimp only; omega) | (show (_ : Int) ≤ (_ : Int); omega) | (show _ < List.length _; simp only [List.length_set, List.length_append, List.length_take]; omega) | (show wantB _ _ = true; simp <;> omega) | (show (_ : Bool) = _; simp_all; done) | (exfalso; omega) | refine aRegion_auto (by decide +kernel) ?_ | fail))
  apply exEff
  · (repeat' (first | refine And.intro ?_ ?_ | omega))
    refine acall_frame0 rfl (less_int _ _ _ _ ?_)
    exact ⟨rfl, rfl⟩
  (repeat' (first | exact trivial | exact fun h => h | refine And.intro ?_ ?_ | (intro hb; try simp at hb) | omega | exact rfl | exact Nat.le_refl _ | (show _ + 1 ≤ 4294967296; omega) | (dsimp only; omega) | (show (_ : Int) ≤ (_ : Int); omega) | (show _ < List.length _; simp only [List.length_set, List.length_append, List.length_take]; omega) | (show wantB _ _ = true; simp <;> omega) | (show (_ : Bool) = _; simp_all; done) | (exfalso; omega) | refine aRegion_auto (by decide +kernel) ?_ | fail))
  · refine ⟨_, _, REnt.refl _ _ _, hK j i (s + 1) (.inr ⟨rfl, rfl⟩) (by omega) (by omega)⟩
  · refine ⟨_, _, REnt.refl _ _ _, hK i j s (.inl ⟨rfl, rfl⟩) (by omega) (by omega)⟩
set_option maxHeartbeats 4000000 in
theorem median_any (G : List (Nat × Value)) (xs : List Int) (n a b c : Nat) (s : Int) (hn : xs.length = n) (hs : n ≤ 1000000000) (ha : a < n) (hb : b < n) (hc : c < n) (h0 : 0 ≤ s) (h1 : s ≤ 50) (K : AV → List AO → Prop) (hK : ∀ (m : Nat) (s' : Int), m = a ∨ m = b ∨ m = c → s ≤ s' → s' ≤ s + 3 → K (.fz int m) [.row int xs, .box [.fz int s']]) :
    ACall Tryz.prog G 184 [.ref 0 0 n, .fz int a, .fz int b, .fz int c, .ptr 1 0] [.row int xs, .box [.fz int s]] K := by
  refine acall_mk (E := envAt G 36 2) (envOk _ _ _) Tryz.func184 rfl rfl rfl rfl rfl ?_
  (repeat' (first | exact trivial | exact fun h => h | refine And.intro ?_ ?_ | (intro hb; try simp at hb) | omega | exact rfl | exact Nat.le_refl _ | (show _ + 1 ≤ 4294967296; omega) | (dsimp only; omega) | (show (_ : Int) ≤ (_ : Int); omega) | (show _ < List.length _; simp only [List.length_set, List.length_append, List.length_take]; omega) | (show wantB _ _ = true; simp <;> omega) | (show (_ : Bool) = _; simp_all; done) | (exfalso; omega) | refine aRegion_auto (by decide +kernel) ?_ | fail))
  refine order2_any _ xs n a b s hn hs ha hb (by omega) (by omega) _ fun a1 b1 s1 e1 l1 u1 => ?_
  (repeat' (first | exact trivial | exact fun h => h | refine And.intro ?_ ?_ | (intro hb; try simp at hb) | omega | exact rfl | exact Nat.le_refl _ | (show _ + 1 ≤ 4294967296; omega) | (dsimp only; omega) | (show (_ : Int) ≤ (_ : Int); omega) | (show _ < List.length _; simp only [List.length_set, List.length_append, List.length_take]; omega) | (show wantB _ _ = true; simp <;> omega) | (show (_ : Bool) = _; simp_all; done) | (exfalso; omega) | refine aRegion_auto (by decide +kernel) ?_ | fail))
  refine order2_any _ xs n b1 c s1 hn hs (by omega) hc (by omega) (by omega) _ fun b2 c2 s2 e2 l2 u2 => ?_
  (repeat' (first | exact trivial | exact fun h => h | refine And.intro ?_ ?_ | (intro hb; try simp at hb) | omega | exact rfl | exact Nat.le_refl _ | (show _ + 1 ≤ 4294967296; omega) | (dsimp only; omega) | (show (_ : Int) ≤ (_ : Int); omega) | (show _ < List.length _; simp only [List.length_set, List.length_append, List.length_take]; omega) | (show wantB _ _ = true; simp <;> omega) | (show (_ : Bool) = _; simp_all; done) | (exfalso; omega) | refine aRegion_auto (by decide +kernel) ?_ | fail))
  refine order2_any _ xs n a1 b2 s2 hn hs (by omega) (by omega) (by omega) (by omega) _ fun a3 b3 s3 e3 l3 u3 => ?_
  (repeat' (first | exact trivial | exact fun h => h | refine And.intro ?_ ?_ | (intro hb; try simp at hb) | omega | exact rfl | exact Nat.le_refl _ | (show _ + 1 ≤ 4294967296; omega) | (dsimp only; omega) | (show (_ : Int) ≤ (_ : Int); omega) | (show _ < List.length _; simp only [List.length_set, List.length_append, List.length_take]; omega) | (show wantB _ _ = true; simp <;> omega) | (show (_ : Bool) = _; simp_all; done) | (exfalso; omega) | refine aRegion_auto (by decide +kernel) ?_ | fail))
  refine ⟨_, _, REnt.refl _ _ _, hK b3 s3 (by omega) (by omega) (by omega)⟩
set_option maxHeartbeats 4000000 in
theorem medianAdj_any (G : List (Nat × Value)) (xs : List Int) (n a : Nat) (s : Int) (hn : xs.length = n) (hs : n ≤ 1000000000) (ha : 1 ≤ a) (hb : a + 1 < n) (h0 : 0 ≤ s) (h1 : s ≤ 50) (K : AV → List AO → Prop) (hK : ∀ (m : Nat) (s' : Int), a ≤ m + 1 → m ≤ a + 1 → s ≤ s' → s' ≤ s + 3 → K (.fz int m) [.row int xs, .box [.fz int s']]) :
    ACall Tryz.prog G 183 [.ref 0 0 n, .fz int a, .ptr 1 0] [.row int xs, .box [.fz int s]] K := by
  refine acall_mk (E := envAt G 15 2) (envOk _ _ _) Tryz.func183 rfl rfl rfl rfl rfl ?_
  (repeat' (first | exact trivial | exact fun h => h | refine And.intro ?_ ?_ | (intro hb; try simp at hb) | omega | exact rfl | exact Nat.le_refl _ | (show _ + 1 ≤ 4294967296; omega) | (dsimp only; omega) | (show (_ : Int) ≤ (_ : Int); omega) | (show _ < List.length _; simp only [List.length_set, List.length_append, List.length_take]; omega) | (show wantB _ _ = true; simp <;> omega) | (show (_ : Bool) = _; simp_all; done) | (exfalso; omega) | refine aRegion_auto (by decide +kernel) ?_ | fail))
  refine acall_arg (median_any _ xs n (a - 1) a (a + 1) s hn hs (by omega) (by omega) (by omega) h0 h1 _ fun m s1 e1 l1 u1 => ?_) ?_
  rotate_left
  · have e : ∀ x y : Int, x = (a : Int) - 1 → y = (a : Int) + 1 → [AV.ref 0 0 n, AV.fz int x, AV.fz int a, AV.fz int y, AV.ptr 1 0] = [AV.ref 0 0 n, AV.fz int ((a : Int) - 1), AV.fz int a, AV.fz int ((a : Int) + 1), AV.ptr 1 0] := by rintro _ _ rfl rfl; rfl
    exact e ((a - 1 : Nat) : Int) ((a + 1 : Nat) : Int) (by omega) (by omega)
  (repeat' (first | exact trivial | exact fun h => h | refine And.intro ?_ ?_ | (intro hb; try simp at hb) | omega | exact rfl | exact Nat.le_refl _ | (show _ + 1 ≤ 4294967296; omega) | (dsimp only; omega) | (show (_ : Int) ≤ (_ : Int); omega) | (show _ < List.length _; simp only [List.length_set, List.length_append, List.length_take]; omega) | (show wantB _ _ = true; simp <;> omega) | (show (_ : Bool) = _; simp_all; done) | (exfalso; omega) | refine aRegion_auto (by decide +kernel) ?_ | fail))
  refine ⟨_, _, REnt.refl _ _ _, hK m s1 (by omega) (by omega) (by omega) (by omega)⟩
set_option maxHeartbeats 8000000 in
theorem choosePivot_any (G : List (Nat × Value)) (xs : List Int) (n a b : Nat) (hn : xs.length = n) (hs : n ≤ 1000000000) (hab : a + 8 ≤ b) (hb : b ≤ n) (K : AV → List AO → Prop) (hK : ∀ (p : Nat) (h : Int), a ≤ p → p < b → K (.tup [.fz int p, .fz int h]) [.row int xs]) :
    ACall Tryz.prog G 147 [.ref 0 0 n, .fz int a, .fz int b] [.row int xs] K := by
  obtain ⟨q, hq⟩ : ∃ q, q = (b - a) / 4 := ⟨_, rfl⟩
  have hqd : Int.tdiv ((b : Int) - (a : Int)) 4 = (q : Int) := by rw [Int.tdiv_eq_ediv_of_nonneg (by omega)]; omega
  refine acall_mk (E := envCut G 57 1 [6]) (envCutOk _ _ _ _) Tryz.func147 rfl rfl rfl rfl rfl ?_
  (repeat' (first | exact trivial | exact fun h => h | refine And.intro ?_ ?_ | (intro hb; try simp at hb) | omega | exact rfl | exact Nat.le_refl _ | (show _ + 1 ≤ 4294967296; omega) | (dsimp only; omega) | (show (_ : Int) ≤ (_ : Int); omega) | (show _ < List.length _; simp only [List.length_set, List.length_append, List.length_take]; omega) | (show wantB _ _ = true; simp <;> omega) | (show (_ : Bool) = _; simp_all; done) | (exfalso; omega) | refine aRegion_auto (by decide +kernel) ?_ | fail))
  refine ⟨[(0, .ref 0 0 n), (1, .fz int a), (2, .fz int b), (6, .fz int 0), (7, .fz int 0), (8, .fz int ((b : Int) - a)), (9, .ptr 1 0), (10, .fz int ((a + q : Nat) : Int)), (11, .fz int ((a + 2 * q : Nat) : Int)), (12, .fz int ((a + 3 * q : Nat) : Int))], [.row int xs, .box [.fz int 0]], Ent.sub rfl ?_, ?_⟩
  · (repeat' (first | exact trivial | exact rfl | refine And.intro ?_ ?_))
    · exact congrArg (AV.fz int) (show (a : Int) + Int.tdiv ((b : Int) - (a : Int)) 4 * 1 = ((a + q : Nat) : Int) by rw [hqd]; omega)
    · exact congrArg (AV.fz int) (show (a : Int) + Int.tdiv ((b : Int) - (a : Int)) 4 * 2 = ((a + 2 * q : Nat) : Int) by rw [hqd]; omega)
    · exact congrArg (AV.fz int) (show (a : Int) + Int.tdiv ((b : Int) - (a : Int)) 4 * 3 = ((a + 3 * q : Nat) : Int) by rw [hqd]; omega)
  by_cases h50 : a + 50 ≤ b
  · (repeat' (first | exact trivial | exact fun h => h | refine And.intro ?_ ?_ | (intro hb; try simp at hb) | omega | exact rfl | exact Nat.le_refl _ | (show _ + 1 ≤ 4294967296; omega) | (dsimp only; omega) | (show (_ : Int) ≤ (_ : Int); omega) | (show _ < List.length _; simp only [List.length_set, List.length_append, List.length_take]; omega) | (show wantB _ _ = true; simp <;> omega) | (show (_ : Bool) = _; simp_all; done) | (exfalso; omega) | refine aRegion_auto (by decide +kernel) ?_ | fail))
    refine medianAdj_any _ xs n (a + q) 0 hn hs (by omega) (by omega) (by omega) (by omega) _ fun i s1 i1 i2 l1 u1 => ?_
    (repeat' (first | exact trivial | exact fun h => h | refine And.intro ?_ ?_ | (intro hb; try simp at hb) | omega | exact rfl | exact Nat.le_refl _ | (show _ + 1 ≤ 4294967296; omega) | (dsimp only; omega) | (show (_ : Int) ≤ (_ : Int); omega) | (show _ < List.length _; simp only [List.length_set, List.length_append, List.length_take]; omega) | (show wantB _ _ = true; simp <;> omega) | (show (_ : Bool) = _; simp_all; done) | (exfalso; omega) | refine aRegion_auto (by decide +kernel) ?_ | fail))
    refine medianAdj_any _ xs n (a + 2 * q) s1 hn hs (by omega) (by omega) (by omega) (by omega) _ fun j s2 j1 j2 l2 u2 => ?_
    (repeat' (first | exact trivial | exact fun h => h | refine And.intro ?_ ?_ | (intro hb; try simp at hb) | omega | exact rfl | exact Nat.le_refl _ | (show _ + 1 ≤ 4294967296; omega) | (dsimp only; omega) | (show (_ : Int) ≤ (_ : Int); omega) | (show _ < List.length _; simp only [List.length_set, List.length_append, List.length_take]; omega) | (show wantB _ _ = true; simp <;> omega) | (show (_ : Bool) = _; simp_all; done) | (exfalso; omega) | refine aRegion_auto (by decide +kernel) ?_ | fail))
    refine medianAdj_any _ xs n (a + 3 * q) s2 hn hs (by omega) (by omega) (by omega) (by omega) _ fun k s3 k1 k2 l3 u3 => ?_
    (repeat' (first | exact trivial | exact fun h => h | refine And.intro ?_ ?_ | (intro hb; try simp at hb) | omega | exact rfl | exact Nat.le_refl _ | (show _ + 1 ≤ 4294967296; omega) | (dsimp only; omega) | (show (_ : Int) ≤ (_ : Int); omega) | (show _ < List.length _; simp only [List.length_set, List.length_append, List.length_take]; omega) | (show wantB _ _ = true; simp <;> omega) | (show (_ : Bool) = _; simp_all; done) | (exfalso; omega) | refine aRegion_auto (by decide +kernel) ?_ | fail))
    refine median_any _ xs n i j k s3 hn hs (by omega) (by omega) (by omega) (by omega) (by omega) _ fun m s4 e4 l4 u4 => ?_
    (repeat' (first | exact trivial | exact fun h => h | refine And.intro ?_ ?_ | (intro hb; try simp at hb) | omega | exact rfl | exact Nat.le_refl _ | (show _ + 1 ≤ 4294967296; omega) | (dsimp only; omega) | (show (_ : Int) ≤ (_ : Int); omega) | (show _ < List.length _; simp only [List.length_set, List.length_append, List.length_take]; omega) | (show wantB _ _ = true; simp <;> omega) | (show (_ : Bool) = _; simp_all; done) | (exfalso; omega) | refine aRegion_auto (by decide +kernel) ?_ | fail))
    · refine ⟨_, _, REnt.ren [0] rfl ?_ ?_, hK m 1 (by omega) (by omega)⟩ <;> (repeat' (first | exact trivial | exact rfl | refine And.intro ?_ ?_))
    · refine ⟨_, _, REnt.ren [0] rfl ?_ ?_, hK m 2 (by omega) (by omega)⟩ <;> (repeat' (first | exact trivial | exact rfl | refine And.intro ?_ ?_))
    · refine ⟨_, _, REnt.ren [0] rfl ?_ ?_, hK m 0 (by omega) (by omega)⟩ <;> (repeat' (first | exact trivial | exact rfl | refine And.intro ?_ ?_))
  · (repeat' (first | exact trivial | exact fun h => h | refine And.intro ?_ ?_ | (intro hb; try simp at hb) | omega | exact rfl | exact Nat.le_refl _ | (show _ + 1 ≤ 4294967296; omega) | (dsimp only; omega) | (show (_ : Int) ≤ (_ : Int); omega) | (show _ < List.length _; simp only [List.length_set, List.length_append, List.length_take]; omega) | (show wantB _ _ = true; simp <;> omega) | (show (_ : Bool) = _; simp_all; done) | (exfalso; omega) | refine aRegion_auto (by decide +kernel) ?_ | fail))
    refine median_any _ xs n (a + q) (a + 2 * q) (a + 3 * q) 0 hn hs (by omega) (by omega) (by omega) (by omega) (by omega) _ fun m s4 e4 l4 u4 => ?_
    (repeat' (first | exact trivial | exact fun h => h | refine And.intro ?_ ?_ | (intro hb; try simp at hb) | omega | exact rfl | exact Nat.le_refl _ | (show _ + 1 ≤ 4294967296; omega) | (dsimp only; omega) | (show (_ : Int) ≤ (_ : Int); omega) | (show _ < List.length _; simp only [List.length_set, List.length_append, List.length_take]; omega) | (show wantB _ _ = true; simp <;> omega) | (show (_ : Bool) = _; simp_all; done) | (exfalso; omega) | refine aRegion_auto (by decide +kernel) ?_ | fail))
    · refine ⟨_, _, REnt.ren [0] rfl ?_ ?_, hK m 1 (by omega) (by omega)⟩ <;> (repeat' (first | exact trivial | exact rfl | refine And.intro ?_ ?_))
    · refine ⟨_, _, REnt.ren [0] rfl ?_ ?_, hK m 0 (by omega) (by omega)⟩ <;> (repeat' (first | exact trivial | exact rfl | refine And.intro ?_ ?_))
end Go.Proofs.YtgjjooophigkoaaGreatDoor
/-
  Sorting numbers: the partition around a pivot.
-/
namespace Pdq
variable {α : Type}
section
variable {lt : α → α → Bool} {d : α} {a b : Nat} {xs ys : List α}
/-- a partition under way: what is less up to i, what is not from j on -/
def PtI (lt : α → α → Bool) (d : α) (a b i j : Nat) (xs : List α) : Prop := a + 1 ≤ i ∧ i ≤ j ∧ j ≤ b ∧ (∀ k, a + 1 ≤ k → k < i → lt (xs.getD k d) (xs.getD a d) = true) ∧ (∀ k, j ≤ k → k < b → lt (xs.getD k d) (xs.getD a d) = false)
theorem pt_start (h : a < b) : PtI lt d a b (a + 1) b xs := ⟨Nat.le_refl _, h, Nat.le_refl _, fun k h1 h2 => by omega, fun k h1 h2 => by omega⟩
theorem pt_up {i j : Nat} (h : PtI lt d a b i j xs) (hij : i < j) (hl : lt (xs.getD i d) (xs.getD a d) = true) : PtI lt d a b (i + 1) j xs := by
  obtain ⟨h1, h2, h3, h4, h5⟩ := h
  refine ⟨by omega, hij, h3, fun k k1 k2 => ?_, h5⟩
  by_cases e : k = i
  · rw [e]; exact hl
  · exact h4 k k1 (by omega)
theorem pt_dn {i j : Nat} (h : PtI lt d a b i j xs) (hij : i < j) (hl : lt (xs.getD (j - 1) d) (xs.getD a d) = false) : PtI lt d a b i (j - 1) xs := by
  obtain ⟨h1, h2, h3, h4, h5⟩ := h
  refine ⟨h1, by omega, by omega, h4, fun k k1 k2 => ?_⟩
  by_cases e : k = j - 1
  · rw [e]; exact hl
  · exact h5 k (by omega) k2
theorem pt_sw {i j : Nat} (h : PtI lt d a b i j xs) (hb : b ≤ xs.length) (hij : i < j) (hl1 : lt (xs.getD i d) (xs.getD a d) = false) (hl2 : lt (xs.getD (j - 1) d) (xs.getD a d) = true) : i + 1 ≤ j - 1 ∧ PtI lt d a b (i + 1) (j - 1) (sw d xs i (j - 1)) := by
  obtain ⟨h1, h2, h3, h4, h5⟩ := h
  have hne : i ≠ j - 1 := fun e => by rw [← e, hl1] at hl2; cases hl2
  have g := sw_get d xs (i := i) (j := j - 1) (by omega) (by omega)
  refine ⟨by omega, by omega, by omega, by omega, fun k k1 k2 => ?_, fun k k1 k2 => ?_⟩
  · rw [g k, g a, if_neg (by omega : ¬ a = j - 1), if_neg (by omega : ¬ a = i)]
    by_cases e : k = i
    · rw [if_neg (by omega), if_pos e]; exact hl2
    · rw [if_neg (by omega), if_neg e]; exact h4 k k1 (by omega)
  · rw [g k, g a, if_neg (by omega : ¬ a = j - 1), if_neg (by omega : ¬ a = i)]
    by_cases e : k = j - 1
    · rw [if_pos e]; exact hl1
    · rw [if_neg e, if_neg (by omega)]; exact h5 k (by omega) k2
theorem pt_end {j : Nat} (h : PtI lt d a b j j xs) (hb : b ≤ xs.length) : Par lt d a b (j - 1) (sw d xs (j - 1) a) := by
  obtain ⟨h1, h2, h3, h4, h5⟩ := h
  have hab : a < xs.length := by omega
  have g := sw_get d xs (i := j - 1) (j := a) (by omega) hab
  have gm : (sw d xs (j - 1) a).getD (j - 1) d = xs.getD a d := by
    rw [g (j - 1)]
    split
    · rename_i e; rw [e]
    · rw [if_pos rfl]
  refine ⟨by omega, by omega, fun k k1 k2 => ?_, fun k k1 k2 => ?_⟩
  · rw [gm, g k]
    by_cases e : k = a
    · rw [if_pos e]; exact h4 (j - 1) (by omega) (by omega)
    · rw [if_neg e, if_neg (by omega)]; exact h4 k (by omega) (by omega)
  · rw [gm, g k, if_neg (by omega), if_neg (by omega)]
    exact h5 k (by omega) k2
end
end Pdq
namespace Go.Proofs.YtgjjooophigkoaaGreatDoor
open Go Go.Ab
set_option maxRecDepth 100000
theorem REnt.of_eq {n0 : Nat} {r r' : AV} {A A' : List AO} (e : r = r') (e2 : A = A') : REnt n0 r A r' A' := e ▸ e2 ▸ REnt.refl n0 r A
set_option maxHeartbeats 8000000 in
theorem partition_any (G : List (Nat × Value)) (xs : List Int) (n a b p : Nat) (hn : xs.length = n) (hs : n ≤ 1000000000) (hab : a ≤ p) (hpb : p < b) (hbn : b ≤ n) (K : AV → List AO → Prop) (hK : ∀ ys (m : Nat) (q : Bool), Pdq.SP 0 a b xs ys → Pdq.Par ltI 0 a b m ys → K (.tup [.fz int m, .fz .bool q]) [.row int ys]) :
    ACall Tryz.prog G 152 [.ref 0 0 n, .fz int a, .fz int b, .fz int p] [.row int xs] K := by
  refine acall_mk (E := envAt G 168 1) (envOk _ _ _) Tryz.func152 rfl rfl rfl rfl rfl ?_
  (repeat' (first | exact trivial | exact fun h => h | refine And.intro ?_ ?_ | (intro hb; try simp at hb) | omega | exact rfl | exact Nat.le_refl _ | (show _ + 1 ≤ 4294967296; omega) | (dsimp only; omega) | (show (_ : Int) ≤ (_ : Int); omega) | (show _ < List.length _; simp only [List.length_set, List.length_append, List.length_take]; omega) | (show wantB _ _ = true; simp <;> omega) | (show (_ : Bool) = _; simp_all; done) | (exfalso; omega) | refine aRegion_auto (by decide +kernel) ?_ | fail))
  (apply exEff; focus (repeat' (first | exact ⟨rfl, rfl⟩ | exact trivial | refine And.intro ?_ ?_ | omega | exact Nat.le_refl _ | (show _ + 1 ≤ 4294967296; omega))))
  (repeat' (first | exact trivial | exact fun h => h | refine And.intro ?_ ?_ | (intro hb; try simp at hb) | omega | exact rfl | exact Nat.le_refl _ | (show _ + 1 ≤ 4294967296; omega) | (dsimp only; omega) | (show (_ : Int) ≤ (_ : Int); omega) | (show _ < List.length _; simp only [List.length_set, List.length_append, List.length_take]; omega) | (show wantB _ _ = true; simp <;> omega) | (show (_ : Bool) = _; simp_all; done) | (exfalso; omega) | refine aRegion_auto (by decide +kernel) ?_ | fail))
  (apply exEff; focus (repeat' (first | exact ⟨rfl, rfl⟩ | exact trivial | refine And.intro ?_ ?_ | omega | exact Nat.le_refl _ | (show _ + 1 ≤ 4294967296; omega))))
  (repeat' (first | exact trivial | exact fun h => h | refine And.intro ?_ ?_ | (intro hb; try simp at hb) | omega | exact rfl | exact Nat.le_refl _ | (show _ + 1 ≤ 4294967296; omega) | (dsimp only; omega) | (show (_ : Int) ≤ (_ : Int); omega) | (show _ < List.length _; simp only [List.length_set, List.length_append, List.length_take]; omega) | (show wantB _ _ = true; simp <;> omega) | (show (_ : Bool) = _; simp_all; done) | (exfalso; omega) | refine aRegion_auto (by decide +kernel) ?_ | fail))
  obtain ⟨zs, ezs⟩ : ∃ zs, zs = Pdq.sw 0 xs a p := ⟨_, rfl⟩
  have hsp : Pdq.SP 0 a b xs zs := by rw [ezs]; exact .step (.refl _) ⟨by omega, by omega⟩ ⟨by omega, by omega⟩ (by omega)
  have hlz := hsp.len
  have eA : List.set (List.set xs (0 + Int.toNat (a : Int)) (List.getD xs (0 + Int.toNat (p : Int)) int.dft)) (0 + Int.toNat (p : Int)) (List.getD xs (0 + Int.toNat (a : Int)) int.dft) = zs := ezs ▸ set_sw (by omega) (by omega) (get_at (by omega)) (get_at (by omega))
  refine ⟨Nat, fun i => ⟨[(0, .ref 0 0 n), (1, .fz int a), (2, .fz int b), (8, .fz int 0), (9, .fz .bool false), (10, .fz int i), (11, .fz int ((b : Int) - 1))], [.row int zs]⟩, fun i => Pdq.PtI ltI 0 a b i b zs, fun i => n - i, (a + 1), Pdq.pt_start (by omega), Ent.sub (congrArg (fun l => [AO.row int l]) eA) ?_, ?_⟩
  · (repeat' (first | exact trivial | exact rfl | refine And.intro ?_ ?_))
  intro i hp
  have hp : Pdq.PtI ltI 0 a b i b zs := hp
  have p1 := hp.1
  have p2 := hp.2.1
  have p3 := hp.2.2.1
  show awp _ _ _ ⟨[(0, .ref 0 0 n), (1, .fz int a), (2, .fz int b), (8, .fz int 0), (9, .fz .bool false), (10, .fz int i), (11, .fz int ((b : Int) - 1))], [.row int zs]⟩
  apply merge
  · intro hc
    by_cases hij : i < b
    · have q1 : 0 + Int.toNat (i : Int) = i := by omega
      have q2 : 0 + Int.toNat (a : Int) = a := by omega
      (repeat' (first | exact trivial | exact fun h => h | refine And.intro ?_ ?_ | (intro hb; try simp at hb) | omega | exact rfl | exact Nat.le_refl _ | (show _ + 1 ≤ 4294967296; omega) | (dsimp only; omega) | (show (_ : Int) ≤ (_ : Int); omega) | (show _ < List.length _; simp only [List.length_set, List.length_append, List.length_take]; omega) | (show wantB _ _ = true; simp <;> omega) | (show (_ : Bool) = _; simp_all; done) | (exfalso; omega) | refine aRegion_auto (by decide +kernel) ?_ | fail))
      apply exEff
      · refine ⟨fun _ => ?_, fun h => absurd h (by simp; omega)⟩
        (repeat' (first | refine And.intro ?_ ?_ | (show wantB _ _ = true; simp; omega)))
        refine acall_frame0 rfl (less_int _ _ _ _ ?_)
        exact ⟨rfl, rfl⟩
      (repeat' (first | exact trivial | exact fun h => h | refine And.intro ?_ ?_ | (intro hb; try simp at hb) | omega | exact rfl | exact Nat.le_refl _ | (show _ + 1 ≤ 4294967296; omega) | (dsimp only; omega) | (show (_ : Int) ≤ (_ : Int); omega) | (show _ < List.length _; simp only [List.length_set, List.length_append, List.length_take]; omega) | (show wantB _ _ = true; simp <;> omega) | (show (_ : Bool) = _; simp_all; done) | (exfalso; omega) | refine aRegion_auto (by decide +kernel) ?_ | fail))
      · have hlt : ltI (zs.getD i 0) (zs.getD a 0) = true := by rw [← get_q, ← get_q]; exact hb.2
        refine ⟨i + 1, Pdq.pt_up hp hij hlt, by show n - (i + 1) < n - i; omega, Ent.sub rfl ?_⟩
        (repeat' (first | exact trivial | exact rfl | refine And.intro ?_ ?_))
      · have hge : i = b ∨ ltI (zs.getD i 0) (zs.getD a 0) = false := by
          have := hb (by omega)
          rw [get_q, get_q] at this
          exact .inr this
        refine ⟨Nat, fun j => ⟨[(0, .ref 0 0 n), (1, .fz int a), (2, .fz int b), (8, .fz int 0), (9, .fz .bool false), (10, .fz int i), (11, .fz int ((j : Int) - 1))], [.row int zs]⟩, fun j => Pdq.PtI ltI 0 a b i j zs ∧ (i = b ∨ ltI (zs.getD i 0) (zs.getD a 0) = false) ∧ j ≤ b, fun j => j, b, ⟨hp, hge, Nat.le_refl _⟩, Ent.sub rfl ?_, hc.out⟩
        (repeat' (first | exact trivial | exact rfl | refine And.intro ?_ ?_))
    · have hge : i = b ∨ ltI (zs.getD i 0) (zs.getD a 0) = false := .inl (by omega)
      (repeat' (first | exact trivial | exact fun h => h | refine And.intro ?_ ?_ | (intro hb; try simp at hb) | omega | exact rfl | exact Nat.le_refl _ | (show _ + 1 ≤ 4294967296; omega) | (dsimp only; omega) | (show (_ : Int) ≤ (_ : Int); omega) | (show _ < List.length _; simp only [List.length_set, List.length_append, List.length_take]; omega) | (show wantB _ _ = true; simp <;> omega) | (show (_ : Bool) = _; simp_all; done) | (exfalso; omega) | refine aRegion_auto (by decide +kernel) ?_ | fail))
      apply exEff
      · refine ⟨fun h => absurd h (by simp; omega), fun _ => ⟨rfl, rfl⟩⟩
      (repeat' (first | exact trivial | exact fun h => h | refine And.intro ?_ ?_ | (intro hb; try simp at hb) | omega | exact rfl | exact Nat.le_refl _ | (show _ + 1 ≤ 4294967296; omega) | (dsimp only; omega) | (show (_ : Int) ≤ (_ : Int); omega) | (show _ < List.length _; simp only [List.length_set, List.length_append, List.length_take]; omega) | (show wantB _ _ = true; simp <;> omega) | (show (_ : Bool) = _; simp_all; done) | (exfalso; omega) | refine aRegion_auto (by decide +kernel) ?_ | fail))
      all_goals first | exact decide_eq_false (by omega) | skip
      refine ⟨Nat, fun j => ⟨[(0, .ref 0 0 n), (1, .fz int a), (2, .fz int b), (8, .fz int 0), (9, .fz .bool false), (10, .fz int i), (11, .fz int ((j : Int) - 1))], [.row int zs]⟩, fun j => Pdq.PtI ltI 0 a b i j zs ∧ (i = b ∨ ltI (zs.getD i 0) (zs.getD a 0) = false) ∧ j ≤ b, fun j => j, b, ⟨hp, hge, Nat.le_refl _⟩, Ent.sub rfl ?_, hc.out⟩
      (repeat' (first | exact trivial | exact rfl | refine And.intro ?_ ?_))
  clear hp p1 p2 p3
  intro j ⟨hp, hge, hj0⟩
  have hp : Pdq.PtI ltI 0 a b i j zs := hp
  have p1 := hp.1
  have p2 := hp.2.1
  have p3 := hp.2.2.1
  show awp _ _ _ ⟨[(0, .ref 0 0 n), (1, .fz int a), (2, .fz int b), (8, .fz int 0), (9, .fz .bool false), (10, .fz int i), (11, .fz int ((j : Int) - 1))], [.row int zs]⟩
  by_cases hij : i < j
  · (repeat' (first | exact trivial | exact fun h => h | refine And.intro ?_ ?_ | (intro hb; try simp at hb) | omega | exact rfl | exact Nat.le_refl _ | (show _ + 1 ≤ 4294967296; omega) | (dsimp only; omega) | (show (_ : Int) ≤ (_ : Int); omega) | (show _ < List.length _; simp only [List.length_set, List.length_append, List.length_take]; omega) | (show wantB _ _ = true; simp <;> omega) | (show (_ : Bool) = _; simp_all; done) | (exfalso; omega) | refine aRegion_auto (by decide +kernel) ?_ | fail))
    apply exEff
    · refine ⟨fun _ => ?_, fun h => absurd h (by simp; omega)⟩
      (repeat' (first | refine And.intro ?_ ?_ | (show wantB _ _ = true; simp; omega)))
      refine acall_frame0 rfl (less_int _ _ _ _ ?_)
      exact ⟨rfl, rfl⟩
    have hge : ltI (zs.getD i 0) (zs.getD a 0) = false := hge.resolve_left (by omega)
    (repeat' (first | exact trivial | exact fun h => h | refine And.intro ?_ ?_ | (intro hb; try simp at hb) | omega | exact rfl | exact Nat.le_refl _ | (show _ + 1 ≤ 4294967296; omega) | (dsimp only; omega) | (show (_ : Int) ≤ (_ : Int); omega) | (show _ < List.length _; simp only [List.length_set, List.length_append, List.length_take]; omega) | (show wantB _ _ = true; simp <;> omega) | (show (_ : Bool) = _; simp_all; done) | (exfalso; omega) | refine aRegion_auto (by decide +kernel) ?_ | fail))
    · have hle : ltI (zs.getD (j - 1) 0) (zs.getD a 0) = false := by
        have := hb.2
        rw [get_q, get_q] at this
        exact this
      refine ⟨j - 1, ⟨Pdq.pt_dn hp hij hle, .inr hge, by omega⟩, by show j - 1 < j; omega, Ent.sub rfl ?_⟩
      (repeat' (first | exact trivial | exact rfl | refine And.intro ?_ ?_))
      exact congrArg (AV.fz int) (show (j : Int) - 1 - 1 = ((j - 1 : Nat) : Int) - 1 by omega)
    · rename_i hx
      have hlt : ltI (zs.getD (j - 1) 0) (zs.getD a 0) = true := by
        have := hx (by omega)
        rw [get_q, get_q] at this
        exact this
      obtain ⟨hnx, hpx⟩ := Pdq.pt_sw hp (by omega) hij hge hlt
      (repeat' (first | exact trivial | exact fun h => h | refine And.intro ?_ ?_ | (intro hb; try simp at hb) | omega | exact rfl | exact Nat.le_refl _ | (show _ + 1 ≤ 4294967296; omega) | (dsimp only; omega) | (show (_ : Int) ≤ (_ : Int); omega) | (show _ < List.length _; simp only [List.length_set, List.length_append, List.length_take]; omega) | (show wantB _ _ = true; simp <;> omega) | (show (_ : Bool) = _; simp_all; done) | (exfalso; omega) | refine aRegion_auto (by decide +kernel) ?_ | fail))
      (apply exEff; focus (repeat' (first | exact ⟨rfl, rfl⟩ | exact trivial | refine And.intro ?_ ?_ | omega | exact Nat.le_refl _ | (show _ + 1 ≤ 4294967296; omega))))
      (repeat' (first | exact trivial | exact fun h => h | refine And.intro ?_ ?_ | (intro hb; try simp at hb) | omega | exact rfl | exact Nat.le_refl _ | (show _ + 1 ≤ 4294967296; omega) | (dsimp only; omega) | (show (_ : Int) ≤ (_ : Int); omega) | (show _ < List.length _; simp only [List.length_set, List.length_append, List.length_take]; omega) | (show wantB _ _ = true; simp <;> omega) | (show (_ : Bool) = _; simp_all; done) | (exfalso; omega) | refine aRegion_auto (by decide +kernel) ?_ | fail))
      (apply exEff; focus (repeat' (first | exact ⟨rfl, rfl⟩ | exact trivial | refine And.intro ?_ ?_ | omega | exact Nat.le_refl _ | (show _ + 1 ≤ 4294967296; omega))))
      (repeat' (first | exact trivial | exact fun h => h | refine And.intro ?_ ?_ | (intro hb; try simp at hb) | omega | exact rfl | exact Nat.le_refl _ | (show _ + 1 ≤ 4294967296; omega) | (dsimp only; omega) | (show (_ : Int) ≤ (_ : Int); omega) | (show _ < List.length _; simp only [List.length_set, List.length_append, List.length_take]; omega) | (show wantB _ _ = true; simp <;> omega) | (show (_ : Bool) = _; simp_all; done) | (exfalso; omega) | refine aRegion_auto (by decide +kernel) ?_ | fail))
      have eS := set_sw (xs := zs) (x := (i : Int)) (y := (j : Int) - 1) (i := i) (j := j - 1) (u := zs.getD (j - 1) 0) (v := zs.getD i 0) (by omega) (by omega) rfl rfl
      have eG : List.getD zs (0 + Int.toNat ((j : Int) - 1)) int.dft = zs.getD (j - 1) 0 := get_at (by omega)
      have eH : List.getD zs (0 + Int.toNat (i : Int)) int.dft = zs.getD i 0 := get_at (by omega)
      rw [← eG, ← eH] at eS
      refine ⟨List Int × Nat × Nat, fun x => ⟨[(0, .ref 0 0 n), (1, .fz int a), (2, .fz int b), (8, .fz int 0), (9, .fz .bool false), (10, .fz int x.2.1), (11, .fz int ((x.2.2 : Int) - 1))], [.row int x.1]⟩, fun x => Pdq.SP 0 a b xs x.1 ∧ Pdq.PtI ltI 0 a b x.2.1 x.2.2 x.1, fun x => x.2.2, (Pdq.sw 0 zs i (j - 1), i + 1, j - 1), ⟨.step hsp ⟨by omega, by omega⟩ ⟨by omega, by omega⟩ (by omega), hpx⟩, Ent.sub (congrArg (fun l => [AO.row int l]) eS) ?_, ?_⟩
      · (repeat' (first | exact trivial | exact rfl | refine And.intro ?_ ?_))
        exact congrArg (AV.fz int) (show (j : Int) - 1 - 1 = ((j - 1 : Nat) : Int) - 1 by omega)
      rintro ⟨ws, i0, j0⟩ ⟨hsp, hp⟩
      have hsp : Pdq.SP 0 a b xs ws := hsp
      have hp0 : Pdq.PtI ltI 0 a b i0 j0 ws := hp
      have hlz := hsp.len
      have p01 := hp0.1
      have p02 := hp0.2.1
      have p03 := hp0.2.2.1
      clear hp
      show awp _ _ _ ⟨[(0, .ref 0 0 n), (1, .fz int a), (2, .fz int b), (8, .fz int 0), (9, .fz .bool false), (10, .fz int i0), (11, .fz int ((j0 : Int) - 1))], [.row int ws]⟩
      refine ⟨Nat, fun i => ⟨[(0, .ref 0 0 n), (1, .fz int a), (2, .fz int b), (8, .fz int 0), (9, .fz .bool false), (10, .fz int i), (11, .fz int ((j0 : Int) - 1))], [.row int ws]⟩, fun i => Pdq.PtI ltI 0 a b i j0 ws, fun i => n - i, i0, hp0, Ent.sub rfl ?_, ?_⟩
      · (repeat' (first | exact trivial | exact rfl | refine And.intro ?_ ?_))
      intro i hp
      have hp : Pdq.PtI ltI 0 a b i j0 ws := hp
      have p1 := hp.1
      have p2 := hp.2.1
      have p3 := hp.2.2.1
      show awp _ _ _ ⟨[(0, .ref 0 0 n), (1, .fz int a), (2, .fz int b), (8, .fz int 0), (9, .fz .bool false), (10, .fz int i), (11, .fz int ((j0 : Int) - 1))], [.row int ws]⟩
      apply merge
      · intro hc
        by_cases hij : i < j0
        · have q1 : 0 + Int.toNat (i : Int) = i := by omega
          have q2 : 0 + Int.toNat (a : Int) = a := by omega
          (repeat' (first | exact trivial | exact fun h => h | refine And.intro ?_ ?_ | (intro hb; try simp at hb) | omega | exact rfl | exact Nat.le_refl _ | (show _ + 1 ≤ 4294967296; omega) | (dsimp only; omega) | (show (_ : Int) ≤ (_ : Int); omega) | (show _ < List.length _; simp only [List.length_set, List.length_append, List.length_take]; omega) | (show wantB _ _ = true; simp <;> omega) | (show (_ : Bool) = _; simp_all; done) | (exfalso; omega) | refine aRegion_auto (by decide +kernel) ?_ | fail))
          apply exEff
          · refine ⟨fun _ => ?_, fun h => absurd h (by simp; omega)⟩
            (repeat' (first | refine And.intro ?_ ?_ | (show wantB _ _ = true; simp; omega)))
            refine acall_frame0 rfl (less_int _ _ _ _ ?_)
            exact ⟨rfl, rfl⟩
          (repeat' (first | exact trivial | exact fun h => h | refine And.intro ?_ ?_ | (intro hb; try simp at hb) | omega | exact rfl | exact Nat.le_refl _ | (show _ + 1 ≤ 4294967296; omega) | (dsimp only; omega) | (show (_ : Int) ≤ (_ : Int); omega) | (show _ < List.length _; simp only [List.length_set, List.length_append, List.length_take]; omega) | (show wantB _ _ = true; simp <;> omega) | (show (_ : Bool) = _; simp_all; done) | (exfalso; omega) | refine aRegion_auto (by decide +kernel) ?_ | fail))
          · have hlt : ltI (ws.getD i 0) (ws.getD a 0) = true := by rw [← get_q, ← get_q]; exact hb.2
            refine ⟨i + 1, Pdq.pt_up hp hij hlt, by show n - (i + 1) < n - i; omega, Ent.sub rfl ?_⟩
            (repeat' (first | exact trivial | exact rfl | refine And.intro ?_ ?_))
          · have hge : i = j0 ∨ ltI (ws.getD i 0) (ws.getD a 0) = false := by
              have := hb (by omega)
              rw [get_q, get_q] at this
              exact .inr this
            refine ⟨Nat, fun j => ⟨[(0, .ref 0 0 n), (1, .fz int a), (2, .fz int b), (8, .fz int 0), (9, .fz .bool false), (10, .fz int i), (11, .fz int ((j : Int) - 1))], [.row int ws]⟩, fun j => Pdq.PtI ltI 0 a b i j ws ∧ (i = j0 ∨ ltI (ws.getD i 0) (ws.getD a 0) = false) ∧ j ≤ j0, fun j => j, j0, ⟨hp, hge, Nat.le_refl _⟩, Ent.sub rfl ?_, hc.out⟩
            (repeat' (first | exact trivial | exact rfl | refine And.intro ?_ ?_))
        · have hge : i = j0 ∨ ltI (ws.getD i 0) (ws.getD a 0) = false := .inl (by omega)
          (repeat' (first | exact trivial | exact fun h => h | refine And.intro ?_ ?_ | (intro hb; try simp at hb) | omega | exact rfl | exact Nat.le_refl _ | (show _ + 1 ≤ 4294967296; omega) | (dsimp only; omega) | (show (_ : Int) ≤ (_ : Int); omega) | (show _ < List.length _; simp only [List.length_set, List.length_append, List.length_take]; omega) | (show wantB _ _ = true; simp <;> omega) | (show (_ : Bool) = _; simp_all; done) | (exfalso; omega) | refine aRegion_auto (by decide +kernel) ?_ | fail))
          apply exEff
          · refine ⟨fun h => absurd h (by simp; omega), fun _ => ⟨rfl, rfl⟩⟩
          (repeat' (first | exact trivial | exact fun h => h | refine And.intro ?_ ?_ | (intro hb; try simp at hb) | omega | exact rfl | exact Nat.le_refl _ | (show _ + 1 ≤ 4294967296; omega) | (dsimp only; omega) | (show (_ : Int) ≤ (_ : Int); omega) | (show _ < List.length _; simp only [List.length_set, List.length_append, List.length_take]; omega) | (show wantB _ _ = true; simp <;> omega) | (show (_ : Bool) = _; simp_all; done) | (exfalso; omega) | refine aRegion_auto (by decide +kernel) ?_ | fail))
          all_goals first | exact decide_eq_false (by omega) | skip
          refine ⟨Nat, fun j => ⟨[(0, .ref 0 0 n), (1, .fz int a), (2, .fz int b), (8, .fz int 0), (9, .fz .bool false), (10, .fz int i), (11, .fz int ((j : Int) - 1))], [.row int ws]⟩, fun j => Pdq.PtI ltI 0 a b i j ws ∧ (i = j0 ∨ ltI (ws.getD i 0) (ws.getD a 0) = false) ∧ j ≤ j0, fun j => j, j0, ⟨hp, hge, Nat.le_refl _⟩, Ent.sub rfl ?_, hc.out⟩
          (repeat' (first | exact trivial | exact rfl | refine And.intro ?_ ?_))
      clear hp p1 p2 p3
      intro j ⟨hp, hge, hj0⟩
      have hp : Pdq.PtI ltI 0 a b i j ws := hp
      have p1 := hp.1
      have p2 := hp.2.1
      have p3 := hp.2.2.1
      show awp _ _ _ ⟨[(0, .ref 0 0 n), (1, .fz int a), (2, .fz int b), (8, .fz int 0), (9, .fz .bool false), (10, .fz int i), (11, .fz int ((j : Int) - 1))], [.row int ws]⟩
      by_cases hij : i < j
      · (repeat' (first | exact trivial | exact fun h => h | refine And.intro ?_ ?_ | (intro hb; try simp at hb) | omega | exact rfl | exact Nat.le_refl _ | (show _ + 1 ≤ 4294967296; omega) | (dsimp only; omega) | (show (_ : Int) ≤ (_ : Int); omega) | (show _ < List.length _; simp only [List.length_set, List.length_append, List.length_take]; omega) | (show wantB _ _ = true; simp <;> omega) | (show (_ : Bool) = _; simp_all; done) | (exfalso; omega) | refine aRegion_auto (by decide +kernel) ?_ | fail))
        apply exEff
        · refine ⟨fun _ => ?_, fun h => absurd h (by simp; omega)⟩
          (repeat' (first | refine And.intro ?_ ?_ | (show wantB _ _ = true; simp; omega)))
          refine acall_frame0 rfl (less_int _ _ _ _ ?_)
          exact ⟨rfl, rfl⟩
        have hge : ltI (ws.getD i 0) (ws.getD a 0) = false := hge.resolve_left (by omega)
        (repeat' (first | exact trivial | exact fun h => h | refine And.intro ?_ ?_ | (intro hb; try simp at hb) | omega | exact rfl | exact Nat.le_refl _ | (show _ + 1 ≤ 4294967296; omega) | (dsimp only; omega) | (show (_ : Int) ≤ (_ : Int); omega) | (show _ < List.length _; simp only [List.length_set, List.length_append, List.length_take]; omega) | (show wantB _ _ = true; simp <;> omega) | (show (_ : Bool) = _; simp_all; done) | (exfalso; omega) | refine aRegion_auto (by decide +kernel) ?_ | fail))
        · have hle : ltI (ws.getD (j - 1) 0) (ws.getD a 0) = false := by
            have := hb.2
            rw [get_q, get_q] at this
            exact this
          refine ⟨j - 1, ⟨Pdq.pt_dn hp hij hle, .inr hge, by omega⟩, by show j - 1 < j; omega, Ent.sub rfl ?_⟩
          (repeat' (first | exact trivial | exact rfl | refine And.intro ?_ ?_))
          exact congrArg (AV.fz int) (show (j : Int) - 1 - 1 = ((j - 1 : Nat) : Int) - 1 by omega)
        · rename_i hx
          have hlt : ltI (ws.getD (j - 1) 0) (ws.getD a 0) = true := by
            have := hx (by omega)
            rw [get_q, get_q] at this
            exact this
          obtain ⟨hnx, hpx⟩ := Pdq.pt_sw hp (by omega) hij hge hlt
          (repeat' (first | exact trivial | exact fun h => h | refine And.intro ?_ ?_ | (intro hb; try simp at hb) | omega | exact rfl | exact Nat.le_refl _ | (show _ + 1 ≤ 4294967296; omega) | (dsimp only; omega) | (show (_ : Int) ≤ (_ : Int); omega) | (show _ < List.length _; simp only [List.length_set, List.length_append, List.length_take]; omega) | (show wantB _ _ = true; simp <;> omega) | (show (_ : Bool) = _; simp_all; done) | (exfalso; omega) | refine aRegion_auto (by decide +kernel) ?_ | fail))
          (apply exEff; focus (repeat' (first | exact ⟨rfl, rfl⟩ | exact trivial | refine And.intro ?_ ?_ | omega | exact Nat.le_refl _ | (show _ + 1 ≤ 4294967296; omega))))
          (repeat' (first | exact trivial | exact fun h => h | refine And.intro ?_ ?_ | (intro hb; try simp at hb) | omega | exact rfl | exact Nat.le_refl _ | (show _ + 1 ≤ 4294967296; omega) | (dsimp only; omega) | (show (_ : Int) ≤ (_ : Int); omega) | (show _ < List.length _; simp only [List.length_set, List.length_append, List.length_take]; omega) | (show wantB _ _ = true; simp <;> omega) | (show (_ : Bool) = _; simp_all; done) | (exfalso; omega) | refine aRegion_auto (by decide +kernel) ?_ | fail))
          (apply exEff; focus (repeat' (first | exact ⟨rfl, rfl⟩ | exact trivial | refine And.intro ?_ ?_ | omega | exact Nat.le_refl _ | (show _ + 1 ≤ 4294967296; omega))))
          (repeat' (first | exact trivial | exact fun h => h | refine And.intro ?_ ?_ | (intro hb; try simp at hb) | omega | exact rfl | exact Nat.le_refl _ | (show _ + 1 ≤ 4294967296; omega) | (dsimp only; omega) | (show (_ : Int) ≤ (_ : Int); omega) | (show _ < List.length _; simp only [List.length_set, List.length_append, List.length_take]; omega) | (show wantB _ _ = true; simp <;> omega) | (show (_ : Bool) = _; simp_all; done) | (exfalso; omega) | refine aRegion_auto (by decide +kernel) ?_ | fail))
          have eS := set_sw (xs := ws) (x := (i : Int)) (y := (j : Int) - 1) (i := i) (j := j - 1) (u := ws.getD (j - 1) 0) (v := ws.getD i 0) (by omega) (by omega) rfl rfl
          have eG : List.getD ws (0 + Int.toNat ((j : Int) - 1)) int.dft = ws.getD (j - 1) 0 := get_at (by omega)
          have eH : List.getD ws (0 + Int.toNat (i : Int)) int.dft = ws.getD i 0 := get_at (by omega)
          rw [← eG, ← eH] at eS
          refine ⟨(Pdq.sw 0 ws i (j - 1), i + 1, j - 1), ⟨.step hsp ⟨by omega, by omega⟩ ⟨by omega, by omega⟩ (by omega), hpx⟩, by show j - 1 < j0; omega, Ent.sub (congrArg (fun l => [AO.row int l]) eS) ?_⟩
          (repeat' (first | exact trivial | exact rfl | refine And.intro ?_ ?_))
          exact congrArg (AV.fz int) (show (j : Int) - 1 - 1 = ((j - 1 : Nat) : Int) - 1 by omega)
      · have hie : j = i := by omega
        subst hie
        (repeat' (first | exact trivial | exact fun h => h | refine And.intro ?_ ?_ | (intro hb; try simp at hb) | omega | exact rfl | exact Nat.le_refl _ | (show _ + 1 ≤ 4294967296; omega) | (dsimp only; omega) | (show (_ : Int) ≤ (_ : Int); omega) | (show _ < List.length _; simp only [List.length_set, List.length_append, List.length_take]; omega) | (show wantB _ _ = true; simp <;> omega) | (show (_ : Bool) = _; simp_all; done) | (exfalso; omega) | refine aRegion_auto (by decide +kernel) ?_ | fail))
        apply exEff
        · refine ⟨fun h => absurd h (by simp; omega), fun _ => ⟨rfl, rfl⟩⟩
        (repeat' (first | exact trivial | exact fun h => h | refine And.intro ?_ ?_ | (intro hb; try simp at hb) | omega | exact rfl | exact Nat.le_refl _ | (show _ + 1 ≤ 4294967296; omega) | (dsimp only; omega) | (show (_ : Int) ≤ (_ : Int); omega) | (show _ < List.length _; simp only [List.length_set, List.length_append, List.length_take]; omega) | (show wantB _ _ = true; simp <;> omega) | (show (_ : Bool) = _; simp_all; done) | (exfalso; omega) | refine aRegion_auto (by decide +kernel) ?_ | fail))
        all_goals first | exact decide_eq_false (by omega) | skip
        (apply exEff; focus (repeat' (first | exact ⟨rfl, rfl⟩ | exact trivial | refine And.intro ?_ ?_ | omega | exact Nat.le_refl _ | (show _ + 1 ≤ 4294967296; omega))))
        (repeat' (first | exact trivial | exact fun h => h | refine And.intro ?_ ?_ | (intro hb; try simp at hb) | omega | exact rfl | exact Nat.le_refl _ | (show _ + 1 ≤ 4294967296; omega) | (dsimp only; omega) | (show (_ : Int) ≤ (_ : Int); omega) | (show _ < List.length _; simp only [List.length_set, List.length_append, List.length_take]; omega) | (show wantB _ _ = true; simp <;> omega) | (show (_ : Bool) = _; simp_all; done) | (exfalso; omega) | refine aRegion_auto (by decide +kernel) ?_ | fail))
        (apply exEff; focus (repeat' (first | exact ⟨rfl, rfl⟩ | exact trivial | refine And.intro ?_ ?_ | omega | exact Nat.le_refl _ | (show _ + 1 ≤ 4294967296; omega))))
        (repeat' (first | exact trivial | exact fun h => h | refine And.intro ?_ ?_ | (intro hb; try simp at hb) | omega | exact rfl | exact Nat.le_refl _ | (show _ + 1 ≤ 4294967296; omega) | (dsimp only; omega) | (show (_ : Int) ≤ (_ : Int); omega) | (show _ < List.length _; simp only [List.length_set, List.length_append, List.length_take]; omega) | (show wantB _ _ = true; simp <;> omega) | (show (_ : Bool) = _; simp_all; done) | (exfalso; omega) | refine aRegion_auto (by decide +kernel) ?_ | fail))
        have eA := set_sw (xs := ws) (x := (j : Int) - 1) (y := (a : Int)) (i := j - 1) (j := a) (u := ws.getD a 0) (v := ws.getD (j - 1) 0) (by omega) (by omega) rfl rfl
        have eG : List.getD ws (0 + Int.toNat ((j : Int) - 1)) int.dft = ws.getD (j - 1) 0 := get_at (by omega)
        have eH : List.getD ws (0 + Int.toNat (a : Int)) int.dft = ws.getD a 0 := get_at (by omega)
        rw [← eG, ← eH] at eA
        exact ⟨.tup [.fz int ((j - 1 : Nat) : Int), .fz .bool false], [.row int (Pdq.sw 0 ws (j - 1) a)], REnt.of_eq (congrArg (fun z => AV.tup [.fz int z, .fz .bool false]) (show (j : Int) - 1 = ((j - 1 : Nat) : Int) by omega)) (congrArg (fun l => [AO.row int l]) eA), hK _ (j - 1) false (.step hsp ⟨by omega, by omega⟩ ⟨by omega, by omega⟩ (by omega)) (Pdq.pt_end hp (by omega))⟩
  · have hie : j = i := by omega
    subst hie
    (repeat' (first | exact trivial | exact fun h => h | refine And.intro ?_ ?_ | (intro hb; try simp at hb) | omega | exact rfl | exact Nat.le_refl _ | (show _ + 1 ≤ 4294967296; omega) | (dsimp only; omega) | (show (_ : Int) ≤ (_ : Int); omega) | (show _ < List.length _; simp only [List.length_set, List.length_append, List.length_take]; omega) | (show wantB _ _ = true; simp <;> omega) | (show (_ : Bool) = _; simp_all; done) | (exfalso; omega) | refine aRegion_auto (by decide +kernel) ?_ | fail))
    apply exEff
    · refine ⟨fun h => absurd h (by simp; omega), fun _ => ⟨rfl, rfl⟩⟩
    (repeat' (first | exact trivial | exact fun h => h | refine And.intro ?_ ?_ | (intro hb; try simp at hb) | omega | exact rfl | exact Nat.le_refl _ | (show _ + 1 ≤ 4294967296; omega) | (dsimp only; omega) | (show (_ : Int) ≤ (_ : Int); omega) | (show _ < List.length _; simp only [List.length_set, List.length_append, List.length_take]; omega) | (show wantB _ _ = true; simp <;> omega) | (show (_ : Bool) = _; simp_all; done) | (exfalso; omega) | refine aRegion_auto (by decide +kernel) ?_ | fail))
    all_goals first | exact decide_eq_false (by omega) | skip
    (apply exEff; focus (repeat' (first | exact ⟨rfl, rfl⟩ | exact trivial | refine And.intro ?_ ?_ | omega | exact Nat.le_refl _ | (show _ + 1 ≤ 4294967296; omega))))
    (repeat' (first | exact trivial | exact fun h => h | refine And.intro ?_ ?_ | (intro hb; try simp at hb) | omega | exact rfl | exact Nat.le_refl _ | (show _ + 1 ≤ 4294967296; omega) | (dsimp only; omega) | (show (_ : Int) ≤ (_ : Int); omega) | (show _ < List.length _; simp only [List.length_set, List.length_append, List.length_take]; omega) | (show wantB _ _ = true; simp <;> omega) | (show (_ : Bool) = _; simp_all; done) | (exfalso; omega) | refine aRegion_auto (by decide +kernel) ?_ | fail))
    (apply exEff; focus (repeat' (first | exact ⟨rfl, rfl⟩ | exact trivial | refine And.intro ?_ ?_ | omega | exact Nat.le_refl _ | (show _ + 1 ≤ 4294967296; omega))))
    (repeat' (first | exact trivial | exact fun h => h | refine And.intro ?_ ?_ | (intro hb; try simp at hb) | omega | exact rfl | exact Nat.le_refl _ | (show _ + 1 ≤ 4294967296; omega) | (dsimp only; omega) | (show (_ : Int) ≤ (_ : Int); omega) | (show _ < List.length _; simp only [List.length_set, List.length_append, List.length_take]; omega) | (show wantB _ _ = true; simp <;> omega) | (show (_ : Bool) = _; simp_all; done) | (exfalso; omega) | refine aRegion_auto (by decide +kernel) ?_ | fail))
    have eA := set_sw (xs := zs) (x := (j : Int) - 1) (y := (a : Int)) (i := j - 1) (j := a) (u := zs.getD a 0) (v := zs.getD (j - 1) 0) (by omega) (by omega) rfl rfl
    have eG : List.getD zs (0 + Int.toNat ((j : Int) - 1)) int.dft = zs.getD (j - 1) 0 := get_at (by omega)
    have eH : List.getD zs (0 + Int.toNat (a : Int)) int.dft = zs.getD a 0 := get_at (by omega)
    rw [← eG, ← eH] at eA
    exact ⟨.tup [.fz int ((j - 1 : Nat) : Int), .fz .bool true], [.row int (Pdq.sw 0 zs (j - 1) a)], REnt.of_eq (congrArg (fun z => AV.tup [.fz int z, .fz .bool true]) (show (j : Int) - 1 = ((j - 1 : Nat) : Int) by omega)) (congrArg (fun l => [AO.row int l]) eA), hK _ (j - 1) true (.step hsp ⟨by omega, by omega⟩ ⟨by omega, by omega⟩ (by omega)) (Pdq.pt_end hp (by omega))⟩
end Go.Proofs.YtgjjooophigkoaaGreatDoor
/-
  Sorting numbers: the partition of what is as great as the pivot.
-/
namespace Pdq
variable {α : Type}
theorem pt_endE {lt : α → α → Bool} (O : LtOk lt) {d : α} {a b j : Nat} {xs : List α} (h : PtI (fun x y => !lt y x) d a b j j xs) : ParE lt d a b j xs := by
  obtain ⟨h1, h2, h3, h4, h5⟩ := h
  refine ⟨by omega, h3, fun k k1 k2 => ?_, fun k k1 k2 => by simpa using h5 k k1 k2⟩
  by_cases e : k = a
  · rw [e]; exact le_refl O _
  · have := h4 k (by omega) k2
    show lt _ _ = false
    simpa using this
end Pdq
namespace Go.Proofs.YtgjjooophigkoaaGreatDoor
open Go Go.Ab
set_option maxRecDepth 100000
def ltE (x y : Int) : Bool := !ltI y x
set_option maxHeartbeats 8000000 in
theorem partitionEqual_any (G : List (Nat × Value)) (xs : List Int) (n a b p : Nat) (hn : xs.length = n) (hs : n ≤ 1000000000) (hab : a ≤ p) (hpb : p < b) (hbn : b ≤ n) (K : AV → List AO → Prop) (hK : ∀ ys (m : Nat), Pdq.SP 0 a b xs ys → Pdq.ParE ltI 0 a b m ys → ys.getD a 0 = xs.getD p 0 → K (.fz int m) [.row int ys]) :
    ACall Tryz.prog G 151 [.ref 0 0 n, .fz int a, .fz int b, .fz int p] [.row int xs] K := by
  refine acall_mk (E := envAt G 84 1) (envOk _ _ _) Tryz.func151 rfl rfl rfl rfl rfl ?_
  (repeat' (first | exact trivial | exact fun h => h | refine And.intro ?_ ?_ | (intro hb; try simp at hb) | omega | exact rfl | exact Nat.le_refl _ | (show _ + 1 ≤ 4294967296; omega) | (dsimp only; omega) | (show (_ : Int) ≤ (_ : Int); omega) | (show _ < List.length _; simp only [List.length_set, List.length_append, List.length_take]; omega) | (show wantB _ _ = true; simp <;> omega) | (show (_ : Bool) = _; simp_all; done) | (exfalso; omega) | refine aRegion_auto (by decide +kernel) ?_ | fail))
  (apply exEff; focus (repeat' (first | exact ⟨rfl, rfl⟩ | exact trivial | refine And.intro ?_ ?_ | omega | exact Nat.le_refl _ | (show _ + 1 ≤ 4294967296; omega))))
  (repeat' (first | exact trivial | exact fun h => h | refine And.intro ?_ ?_ | (intro hb; try simp at hb) | omega | exact rfl | exact Nat.le_refl _ | (show _ + 1 ≤ 4294967296; omega) | (dsimp only; omega) | (show (_ : Int) ≤ (_ : Int); omega) | (show _ < List.length _; simp only [List.length_set, List.length_append, List.length_take]; omega) | (show wantB _ _ = true; simp <;> omega) | (show (_ : Bool) = _; simp_all; done) | (exfalso; omega) | refine aRegion_auto (by decide +kernel) ?_ | fail))
  (apply exEff; focus (repeat' (first | exact ⟨rfl, rfl⟩ | exact trivial | refine And.intro ?_ ?_ | omega | exact Nat.le_refl _ | (show _ + 1 ≤ 4294967296; omega))))
  (repeat' (first | exact trivial | exact fun h => h | refine And.intro ?_ ?_ | (intro hb; try simp at hb) | omega | exact rfl | exact Nat.le_refl _ | (show _ + 1 ≤ 4294967296; omega) | (dsimp only; omega) | (show (_ : Int) ≤ (_ : Int); omega) | (show _ < List.length _; simp only [List.length_set, List.length_append, List.length_take]; omega) | (show wantB _ _ = true; simp <;> omega) | (show (_ : Bool) = _; simp_all; done) | (exfalso; omega) | refine aRegion_auto (by decide +kernel) ?_ | fail))
  obtain ⟨zs, ezs⟩ : ∃ zs, zs = Pdq.sw 0 xs a p := ⟨_, rfl⟩
  have hsp : Pdq.SP 0 a b xs zs := by rw [ezs]; exact .step (.refl _) ⟨by omega, by omega⟩ ⟨by omega, by omega⟩ (by omega)
  have hlz := hsp.len
  have hza : zs.getD a 0 = xs.getD p 0 := by
    rw [ezs, Pdq.sw_get 0 xs (by omega) (by omega)]
    split
    · rename_i e; rw [e]
    · rw [if_pos rfl]
  have eA : List.set (List.set xs (0 + Int.toNat (a : Int)) (List.getD xs (0 + Int.toNat (p : Int)) int.dft)) (0 + Int.toNat (p : Int)) (List.getD xs (0 + Int.toNat (a : Int)) int.dft) = zs := ezs ▸ set_sw (by omega) (by omega) (get_at (by omega)) (get_at (by omega))
  refine ⟨List Int × Nat × Nat, fun x => ⟨[(0, .ref 0 0 n), (1, .fz int a), (2, .fz int b), (8, .fz int 0), (9, .fz int x.2.1), (10, .fz int ((x.2.2 : Int) - 1))], [.row int x.1]⟩, fun x => Pdq.SP 0 a b xs x.1 ∧ Pdq.PtI ltE 0 a b x.2.1 x.2.2 x.1 ∧ x.1.getD a 0 = xs.getD p 0, fun x => x.2.2, (zs, a + 1, b), ⟨hsp, Pdq.pt_start (by omega), hza⟩, Ent.sub (congrArg (fun l => [AO.row int l]) eA) ?_, ?_⟩
  · (repeat' (first | exact trivial | exact rfl | refine And.intro ?_ ?_))
  clear hza eA hsp hlz
  rintro ⟨ws, i0, j0⟩ ⟨hsp, hp, hwa⟩
  have hsp : Pdq.SP 0 a b xs ws := hsp
  have hp0 : Pdq.PtI ltE 0 a b i0 j0 ws := hp
  have hwa : ws.getD a 0 = xs.getD p 0 := hwa
  have hlz := hsp.len
  have p01 := hp0.1
  have p02 := hp0.2.1
  have p03 := hp0.2.2.1
  clear hp
  show awp _ _ _ ⟨[(0, .ref 0 0 n), (1, .fz int a), (2, .fz int b), (8, .fz int 0), (9, .fz int i0), (10, .fz int ((j0 : Int) - 1))], [.row int ws]⟩
  refine ⟨Nat, fun i => ⟨[(0, .ref 0 0 n), (1, .fz int a), (2, .fz int b), (8, .fz int 0), (9, .fz int i), (10, .fz int ((j0 : Int) - 1))], [.row int ws]⟩, fun i => Pdq.PtI ltE 0 a b i j0 ws, fun i => n - i, i0, hp0, Ent.sub rfl ?_, ?_⟩
  · (repeat' (first | exact trivial | exact rfl | refine And.intro ?_ ?_))
  intro i hp
  have hp : Pdq.PtI ltE 0 a b i j0 ws := hp
  have p1 := hp.1
  have p2 := hp.2.1
  have p3 := hp.2.2.1
  show awp _ _ _ ⟨[(0, .ref 0 0 n), (1, .fz int a), (2, .fz int b), (8, .fz int 0), (9, .fz int i), (10, .fz int ((j0 : Int) - 1))], [.row int ws]⟩
  apply merge
  · intro hc
    by_cases hij : i < j0
    · have q1 : 0 + Int.toNat (i : Int) = i := by omega
      have q2 : 0 + Int.toNat (a : Int) = a := by omega
      (repeat' (first | exact trivial | exact fun h => h | refine And.intro ?_ ?_ | (intro hb; try simp at hb) | omega | exact rfl | exact Nat.le_refl _ | (show _ + 1 ≤ 4294967296; omega) | (dsimp only; omega) | (show (_ : Int) ≤ (_ : Int); omega) | (show _ < List.length _; simp only [List.length_set, List.length_append, List.length_take]; omega) | (show wantB _ _ = true; simp <;> omega) | (show (_ : Bool) = _; simp_all; done) | (exfalso; omega) | refine aRegion_auto (by decide +kernel) ?_ | fail))
      apply exEff
      · refine ⟨fun _ => ?_, fun h => absurd h (by simp; omega)⟩
        (repeat' (first | refine And.intro ?_ ?_ | (show wantB _ _ = true; simp; omega)))
        refine acall_frame0 rfl (less_int _ _ _ _ ?_)
        exact ⟨rfl, rfl⟩
      (repeat' (first | exact trivial | exact fun h => h | refine And.intro ?_ ?_ | (intro hb; try simp at hb) | omega | exact rfl | exact Nat.le_refl _ | (show _ + 1 ≤ 4294967296; omega) | (dsimp only; omega) | (show (_ : Int) ≤ (_ : Int); omega) | (show _ < List.length _; simp only [List.length_set, List.length_append, List.length_take]; omega) | (show wantB _ _ = true; simp <;> omega) | (show (_ : Bool) = _; simp_all; done) | (exfalso; omega) | refine aRegion_auto (by decide +kernel) ?_ | fail))
      · have hlt : ltE (ws.getD i 0) (ws.getD a 0) = true := by (have := hb.2; rw [get_q, get_q] at this; show (!ltI _ _) = true; rw [this]; rfl)
        refine ⟨i + 1, Pdq.pt_up hp hij hlt, by show n - (i + 1) < n - i; omega, Ent.sub rfl ?_⟩
        (repeat' (first | exact trivial | exact rfl | refine And.intro ?_ ?_))
      · have hge : i = j0 ∨ ltE (ws.getD i 0) (ws.getD a 0) = false := by
          have := hb (by omega)
          rw [get_q, get_q] at this
          refine .inr ?_
          show (!ltI _ _) = false
          rw [this]; rfl
        refine ⟨Nat, fun j => ⟨[(0, .ref 0 0 n), (1, .fz int a), (2, .fz int b), (8, .fz int 0), (9, .fz int i), (10, .fz int ((j : Int) - 1))], [.row int ws]⟩, fun j => Pdq.PtI ltE 0 a b i j ws ∧ (i = j0 ∨ ltE (ws.getD i 0) (ws.getD a 0) = false) ∧ j ≤ j0, fun j => j, j0, ⟨hp, hge, Nat.le_refl _⟩, Ent.sub rfl ?_, hc.out⟩
        (repeat' (first | exact trivial | exact rfl | refine And.intro ?_ ?_))
    · have hge : i = j0 ∨ ltE (ws.getD i 0) (ws.getD a 0) = false := .inl (by omega)
      (repeat' (first | exact trivial | exact fun h => h | refine And.intro ?_ ?_ | (intro hb; try simp at hb) | omega | exact rfl | exact Nat.le_refl _ | (show _ + 1 ≤ 4294967296; omega) | (dsimp only; omega) | (show (_ : Int) ≤ (_ : Int); omega) | (show _ < List.length _; simp only [List.length_set, List.length_append, List.length_take]; omega) | (show wantB _ _ = true; simp <;> omega) | (show (_ : Bool) = _; simp_all; done) | (exfalso; omega) | refine aRegion_auto (by decide +kernel) ?_ | fail))
      apply exEff
      · refine ⟨fun h => absurd h (by simp; omega), fun _ => ⟨rfl, rfl⟩⟩
      (repeat' (first | exact trivial | exact fun h => h | refine And.intro ?_ ?_ | (intro hb; try simp at hb) | omega | exact rfl | exact Nat.le_refl _ | (show _ + 1 ≤ 4294967296; omega) | (dsimp only; omega) | (show (_ : Int) ≤ (_ : Int); omega) | (show _ < List.length _; simp only [List.length_set, List.length_append, List.length_take]; omega) | (show wantB _ _ = true; simp <;> omega) | (show (_ : Bool) = _; simp_all; done) | (exfalso; omega) | refine aRegion_auto (by decide +kernel) ?_ | fail))
      all_goals first | exact decide_eq_false (by omega) | skip
      refine ⟨Nat, fun j => ⟨[(0, .ref 0 0 n), (1, .fz int a), (2, .fz int b), (8, .fz int 0), (9, .fz int i), (10, .fz int ((j : Int) - 1))], [.row int ws]⟩, fun j => Pdq.PtI ltE 0 a b i j ws ∧ (i = j0 ∨ ltE (ws.getD i 0) (ws.getD a 0) = false) ∧ j ≤ j0, fun j => j, j0, ⟨hp, hge, Nat.le_refl _⟩, Ent.sub rfl ?_, hc.out⟩
      (repeat' (first | exact trivial | exact rfl | refine And.intro ?_ ?_))
  clear hp p1 p2 p3
  intro j ⟨hp, hge, hj0⟩
  have hp : Pdq.PtI ltE 0 a b i j ws := hp
  have p1 := hp.1
  have p2 := hp.2.1
  have p3 := hp.2.2.1
  show awp _ _ _ ⟨[(0, .ref 0 0 n), (1, .fz int a), (2, .fz int b), (8, .fz int 0), (9, .fz int i), (10, .fz int ((j : Int) - 1))], [.row int ws]⟩
  by_cases hij : i < j
  · (repeat' (first | exact trivial | exact fun h => h | refine And.intro ?_ ?_ | (intro hb; try simp at hb) | omega | exact rfl | exact Nat.le_refl _ | (show _ + 1 ≤ 4294967296; omega) | (dsimp only; omega) | (show (_ : Int) ≤ (_ : Int); omega) | (show _ < List.length _; simp only [List.length_set, List.length_append, List.length_take]; omega) | (show wantB _ _ = true; simp <;> omega) | (show (_ : Bool) = _; simp_all; done) | (exfalso; omega) | refine aRegion_auto (by decide +kernel) ?_ | fail))
    apply exEff
    · refine ⟨fun _ => ?_, fun h => absurd h (by simp; omega)⟩
      (repeat' (first | refine And.intro ?_ ?_ | (show wantB _ _ = true; simp; omega)))
      refine acall_frame0 rfl (less_int _ _ _ _ ?_)
      exact ⟨rfl, rfl⟩
    have hge : ltE (ws.getD i 0) (ws.getD a 0) = false := hge.resolve_left (by omega)
    (repeat' (first | exact trivial | exact fun h => h | refine And.intro ?_ ?_ | (intro hb; try simp at hb) | omega | exact rfl | exact Nat.le_refl _ | (show _ + 1 ≤ 4294967296; omega) | (dsimp only; omega) | (show (_ : Int) ≤ (_ : Int); omega) | (show _ < List.length _; simp only [List.length_set, List.length_append, List.length_take]; omega) | (show wantB _ _ = true; simp <;> omega) | (show (_ : Bool) = _; simp_all; done) | (exfalso; omega) | refine aRegion_auto (by decide +kernel) ?_ | fail))
    · have hle : ltE (ws.getD (j - 1) 0) (ws.getD a 0) = false := by
        have := hb.2
        rw [get_q, get_q] at this
        show (!ltI _ _) = _
        rw [this]; rfl
      refine ⟨j - 1, ⟨Pdq.pt_dn hp hij hle, .inr hge, by omega⟩, by show j - 1 < j; omega, Ent.sub rfl ?_⟩
      (repeat' (first | exact trivial | exact rfl | refine And.intro ?_ ?_))
      exact congrArg (AV.fz int) (show (j : Int) - 1 - 1 = ((j - 1 : Nat) : Int) - 1 by omega)
    · rename_i hx
      have hlt : ltE (ws.getD (j - 1) 0) (ws.getD a 0) = true := by
        have := hx (by omega)
        rw [get_q, get_q] at this
        show (!ltI _ _) = _
        rw [this]; rfl
      obtain ⟨hnx, hpx⟩ := Pdq.pt_sw hp (by omega) hij hge hlt
      (repeat' (first | exact trivial | exact fun h => h | refine And.intro ?_ ?_ | (intro hb; try simp at hb) | omega | exact rfl | exact Nat.le_refl _ | (show _ + 1 ≤ 4294967296; omega) | (dsimp only; omega) | (show (_ : Int) ≤ (_ : Int); omega) | (show _ < List.length _; simp only [List.length_set, List.length_append, List.length_take]; omega) | (show wantB _ _ = true; simp <;> omega) | (show (_ : Bool) = _; simp_all; done) | (exfalso; omega) | refine aRegion_auto (by decide +kernel) ?_ | fail))
      (apply exEff; focus (repeat' (first | exact ⟨rfl, rfl⟩ | exact trivial | refine And.intro ?_ ?_ | omega | exact Nat.le_refl _ | (show _ + 1 ≤ 4294967296; omega))))
      (repeat' (first | exact trivial | exact fun h => h | refine And.intro ?_ ?_ | (intro hb; try simp at hb) | omega | exact rfl | exact Nat.le_refl _ | (show _ + 1 ≤ 4294967296; omega) | (dsimp only; omega) | (show (_ : Int) ≤ (_ : Int); omega) | (show _ < List.length _; simp only [List.length_set, List.length_append, List.length_take]; omega) | (show wantB _ _ = true; simp <;> omega) | (show (_ : Bool) = _; simp_all; done) | (exfalso; omega) | refine aRegion_auto (by decide +kernel) ?_ | fail))
      (apply exEff; focus (repeat' (first | exact ⟨rfl, rfl⟩ | exact trivial | refine And.intro ?_ ?_ | omega | exact Nat.le_refl _ | (show _ + 1 ≤ 4294967296; omega))))
      (repeat' (first | exact trivial | exact fun h => h | refine And.intro ?_ ?_ | (intro hb; try simp at hb) | omega | exact rfl | exact Nat.le_refl _ | (show _ + 1 ≤ 4294967296; omega) | (dsimp only; omega) | (show (_ : Int) ≤ (_ : Int); omega) | (show _ < List.length _; simp only [List.length_set, List.length_append, List.length_take]; omega) | (show wantB _ _ = true; simp <;> omega) | (show (_ : Bool) = _; simp_all; done) | (exfalso; omega) | refine aRegion_auto (by decide +kernel) ?_ | fail))
      have eS := set_sw (xs := ws) (x := (i : Int)) (y := (j : Int) - 1) (i := i) (j := j - 1) (u := ws.getD (j - 1) 0) (v := ws.getD i 0) (by omega) (by omega) rfl rfl
      have eG : List.getD ws (0 + Int.toNat ((j : Int) - 1)) int.dft = ws.getD (j - 1) 0 := get_at (by omega)
      have eH : List.getD ws (0 + Int.toNat (i : Int)) int.dft = ws.getD i 0 := get_at (by omega)
      rw [← eG, ← eH] at eS
      refine ⟨(Pdq.sw 0 ws i (j - 1), i + 1, j - 1), ⟨.step hsp ⟨by omega, by omega⟩ ⟨by omega, by omega⟩ (by omega), hpx, ?_⟩, by show j - 1 < j0; omega, Ent.sub (congrArg (fun l => [AO.row int l]) eS) ?_⟩
      · show (Pdq.sw 0 ws i (j - 1)).getD a 0 = _
        rw [Pdq.sw_get 0 ws (by omega) (by omega), if_neg (by omega), if_neg (by omega)]
        exact hwa
      (repeat' (first | exact trivial | exact rfl | refine And.intro ?_ ?_))
      exact congrArg (AV.fz int) (show (j : Int) - 1 - 1 = ((j - 1 : Nat) : Int) - 1 by omega)
  · have hie : j = i := by omega
    subst hie
    (repeat' (first | exact trivial | exact fun h => h | refine And.intro ?_ ?_ | (intro hb; try simp at hb) | omega | exact rfl | exact Nat.le_refl _ | (show _ + 1 ≤ 4294967296; omega) | (dsimp only; omega) | (show (_ : Int) ≤ (_ : Int); omega) | (show _ < List.length _; simp only [List.length_set, List.length_append, List.length_take]; omega) | (show wantB _ _ = true; simp <;> omega) | (show (_ : Bool) = _; simp_all; done) | (exfalso; omega) | refine aRegion_auto (by decide +kernel) ?_ | fail))
    apply exEff
    · refine ⟨fun h => absurd h (by simp; omega), fun _ => ⟨rfl, rfl⟩⟩
    (repeat' (first | exact trivial | exact fun h => h | refine And.intro ?_ ?_ | (intro hb; try simp at hb) | omega | exact rfl | exact Nat.le_refl _ | (show _ + 1 ≤ 4294967296; omega) | (dsimp only; omega) | (show (_ : Int) ≤ (_ : Int); omega) | (show _ < List.length _; simp only [List.length_set, List.length_append, List.length_take]; omega) | (show wantB _ _ = true; simp <;> omega) | (show (_ : Bool) = _; simp_all; done) | (exfalso; omega) | refine aRegion_auto (by decide +kernel) ?_ | fail))
    all_goals first | exact decide_eq_false (by omega) | skip
    exact ⟨.fz int j, [.row int ws], REnt.refl _ _ _, hK ws j hsp (Pdq.pt_endE ltI_ok hp) hwa⟩
end Go.Proofs.YtgjjooophigkoaaGreatDoor
/-
  Sorting numbers: the partial insertion.
-/
namespace Go.Proofs.YtgjjooophigkoaaGreatDoor
open Go Go.Ab
set_option maxRecDepth 100000
/-- branches that join at a cut with different rows -/
structure Bx1 (I c : List Int → Prop) : Prop where
  out : ∀ ws, I ws → c ws
theorem merge1 (I : List Int → Prop) {c : List Int → Prop} {g : Prop} (f : Bx1 I c → g) (h : ∀ ws, I ws → c ws) : g := f ⟨h⟩
theorem srt_out {a i b : Nat} {xs ys : List Int} (h : Pdq.Srt ltI 0 a i xs) (hs : Pdq.SP 0 i b xs ys) : Pdq.Srt ltI 0 a i ys := fun p q h1 h2 h3 => by
  rw [hs.out (.inl (by omega)), hs.out (.inl h3)]; exact h p q h1 h2 h3
theorem srt_up {a i : Nat} {xs : List Int} (h : Pdq.Srt ltI 0 a i xs) (hi : a < i) (hl : ltI (xs.getD i 0) (xs.getD (i - 1) 0) = false) : Pdq.Srt ltI 0 a (i + 1) xs := fun p q h1 h2 h3 => by
  by_cases e : q = i
  · rw [e]
    by_cases e2 : p = i - 1
    · rw [e2]; exact hl
    · exact Pdq.le_trans ltI_ok (h p (i - 1) h1 (by omega) (by omega)) hl
  · exact h p q h1 h2 (by omega)
set_option maxHeartbeats 8000000 in
theorem partialIns_any (G : List (Nat × Value)) (xs : List Int) (n a b : Nat) (hn : xs.length = n) (hs : n ≤ 1000000000) (hab : a < b) (hbn : b ≤ n) (hpre : Pdq.Pre ltI 0 a b xs) (K : AV → List AO → Prop) (hK : ∀ ys (q : Bool), Pdq.SP 0 a b xs ys → (q = true → Pdq.Srt ltI 0 a b ys) → K (.fz .bool q) [.row int ys]) :
    ACall Tryz.prog G 149 [.ref 0 0 n, .fz int a, .fz int b] [.row int xs] K := by
  refine acall_mk (E := envCut G 133 1 [18]) (envCutOk _ _ _ _) Tryz.func149 rfl rfl rfl rfl rfl ?_
  (repeat' (first | exact trivial | exact fun h => h | refine And.intro ?_ ?_ | (intro hb; try simp at hb) | omega | exact rfl | exact Nat.le_refl _ | (show _ + 1 ≤ 4294967296; omega) | (dsimp only; omega) | (show (_ : Int) ≤ (_ : Int); omega) | (show _ < List.length _; simp only [List.length_set, List.length_append, List.length_take]; omega) | (show wantB _ _ = true; simp <;> omega) | (show (_ : Bool) = _; simp_all; done) | (exfalso; omega) | refine aRegion_auto (by decide +kernel) ?_ | fail))
  refine ⟨List Int × Nat × Nat, fun x => ⟨[(0, .ref 0 0 n), (1, .fz int a), (2, .fz int b), (6, .fz .bool false), (7, .fz int x.2.1), (8, .fz int x.2.2)], [.row int x.1]⟩, fun x => a < x.2.1 ∧ x.2.1 ≤ b ∧ x.2.2 ≤ 5 ∧ Pdq.SP 0 a b xs x.1 ∧ Pdq.Srt ltI 0 a x.2.1 x.1, fun x => 5 - x.2.2, (xs, a + 1, 0), ⟨Nat.lt_succ_self _, hab, Nat.zero_le _, .refl _, fun p q h1 h2 h3 => by have h3 : q < a + 1 := h3; omega⟩, Ent.sub rfl ?_, ?_⟩
  · (repeat' (first | exact trivial | exact rfl | refine And.intro ?_ ?_))
  rintro ⟨ys, i0, st⟩ ⟨h1, h2, h3, hsp, hsr⟩
  have h1 : a < i0 := h1
  have h2 : i0 ≤ b := h2
  have h3 : st ≤ 5 := h3
  have hsp : Pdq.SP 0 a b xs ys := hsp
  have hsr : Pdq.Srt ltI 0 a i0 ys := hsr
  have hly := hsp.len
  show awp _ _ _ ⟨[(0, .ref 0 0 n), (1, .fz int a), (2, .fz int b), (6, .fz .bool false), (7, .fz int i0), (8, .fz int st)], [.row int ys]⟩
  by_cases hst : st < 5
  · (repeat' (first | exact trivial | exact fun h => h | refine And.intro ?_ ?_ | (intro hb; try simp at hb) | omega | exact rfl | exact Nat.le_refl _ | (show _ + 1 ≤ 4294967296; omega) | (dsimp only; omega) | (show (_ : Int) ≤ (_ : Int); omega) | (show _ < List.length _; simp only [List.length_set, List.length_append, List.length_take]; omega) | (show wantB _ _ = true; simp <;> omega) | (show (_ : Bool) = _; simp_all; done) | (exfalso; omega) | refine aRegion_auto (by decide +kernel) ?_ | fail))
    refine ⟨Nat, fun i => ⟨[(0, .ref 0 0 n), (1, .fz int a), (2, .fz int b), (6, .fz .bool false), (7, .fz int i), (8, .fz int st)], [.row int ys]⟩, fun i => a < i ∧ i ≤ b ∧ Pdq.Srt ltI 0 a i ys, fun i => n - i, i0, ⟨h1, h2, hsr⟩, Ent.sub rfl ?_, ?_⟩
    · (repeat' (first | exact trivial | exact rfl | refine And.intro ?_ ?_))
    clear h1 h2 hsr
    intro i ⟨h1, h2, hsr⟩
    by_cases hib : i < b
    · (repeat' (first | exact trivial | exact fun h => h | refine And.intro ?_ ?_ | (intro hb; try simp at hb) | omega | exact rfl | exact Nat.le_refl _ | (show _ + 1 ≤ 4294967296; omega) | (dsimp only; omega) | (show (_ : Int) ≤ (_ : Int); omega) | (show _ < List.length _; simp only [List.length_set, List.length_append, List.length_take]; omega) | (show wantB _ _ = true; simp <;> omega) | (show (_ : Bool) = _; simp_all; done) | (exfalso; omega) | refine aRegion_auto (by decide +kernel) ?_ | fail))
      apply exEff
      · refine ⟨fun _ => ?_, fun h => absurd h (by simp; omega)⟩
        (repeat' (first | refine And.intro ?_ ?_ | (show wantB _ _ = true; simp; omega)))
        refine acall_frame0 rfl (less_int _ _ _ _ ?_)
        exact ⟨rfl, rfl⟩
      (repeat' (first | exact trivial | exact fun h => h | refine And.intro ?_ ?_ | (intro hb; try simp at hb) | omega | exact rfl | exact Nat.le_refl _ | (show _ + 1 ≤ 4294967296; omega) | (dsimp only; omega) | (show (_ : Int) ≤ (_ : Int); omega) | (show _ < List.length _; simp only [List.length_set, List.length_append, List.length_take]; omega) | (show wantB _ _ = true; simp <;> omega) | (show (_ : Bool) = _; simp_all; done) | (exfalso; omega) | refine aRegion_auto (by decide +kernel) ?_ | fail))
      · have hl : ltI (ys.getD i 0) (ys.getD (i - 1) 0) = false := by
          have := hb.2
          rw [get_q, get_q] at this
          exact this
        refine ⟨i + 1, ⟨by omega, by omega, srt_up hsr h1 hl⟩, by show n - (i + 1) < n - i; omega, Ent.sub rfl ?_⟩
        (repeat' (first | exact trivial | exact rfl | refine And.intro ?_ ?_))
      · exact ⟨_, _, REnt.refl _ _ _, hK ys false hsp fun h => by cases h⟩
      · obtain ⟨zs, ezs⟩ : ∃ zs, zs = Pdq.sw 0 ys i (i - 1) := ⟨_, rfl⟩
        have hyz : Pdq.SP 0 (i - 1) b ys zs := by rw [ezs]; exact .step (.refl _) ⟨by omega, by omega⟩ ⟨by omega, by omega⟩ (by omega)
        have hspz : Pdq.SP 0 a b xs zs := hsp.trans (hyz.wide (by omega) (Nat.le_refl _) (by omega))
        have hlz := hspz.len
        have hsz : Pdq.Srt ltI 0 a (i - 1) zs := srt_out (fun p q k1 k2 k3 => hsr p q k1 k2 (by omega)) hyz
        have eS := set_sw (xs := ys) (x := (i : Int)) (y := (i : Int) - 1) (i := i) (j := i - 1) (u := ys.getD (i - 1) 0) (v := ys.getD i 0) (by omega) (by omega) rfl rfl
        have eG : List.getD ys (0 + Int.toNat ((i : Int) - 1)) int.dft = ys.getD (i - 1) 0 := get_at (by omega)
        have eH : List.getD ys (0 + Int.toNat (i : Int)) int.dft = ys.getD i 0 := get_at (by omega)
        rw [← eG, ← eH, ← ezs] at eS
        apply merge1 (fun ws => Pdq.SP 0 a b xs ws ∧ Pdq.Srt ltI 0 a i ws)
        · intro hc
          by_cases h2a : a + 2 ≤ i
          · (apply exEff; focus (repeat' (first | exact ⟨rfl, rfl⟩ | exact trivial | refine And.intro ?_ ?_ | omega | exact Nat.le_refl _ | (show _ + 1 ≤ 4294967296; omega))))
            (repeat' (first | exact trivial | exact fun h => h | refine And.intro ?_ ?_ | (intro hb; try simp at hb) | omega | exact rfl | exact Nat.le_refl _ | (show _ + 1 ≤ 4294967296; omega) | (dsimp only; omega) | (show (_ : Int) ≤ (_ : Int); omega) | (show _ < List.length _; simp only [List.length_set, List.length_append, List.length_take]; omega) | (show wantB _ _ = true; simp <;> omega) | (show (_ : Bool) = _; simp_all; done) | (exfalso; omega) | refine aRegion_auto (by decide +kernel) ?_ | fail))
            (apply exEff; focus (repeat' (first | exact ⟨rfl, rfl⟩ | exact trivial | refine And.intro ?_ ?_ | omega | exact Nat.le_refl _ | (show _ + 1 ≤ 4294967296; omega))))
            (repeat' (first | exact trivial | exact fun h => h | refine And.intro ?_ ?_ | (intro hb; try simp at hb) | omega | exact rfl | exact Nat.le_refl _ | (show _ + 1 ≤ 4294967296; omega) | (dsimp only; omega) | (show (_ : Int) ≤ (_ : Int); omega) | (show _ < List.length _; simp only [List.length_set, List.length_append, List.length_take]; omega) | (show wantB _ _ = true; simp <;> omega) | (show (_ : Bool) = _; simp_all; done) | (exfalso; omega) | refine aRegion_auto (by decide +kernel) ?_ | fail))
            refine ⟨List Int × Nat, fun x => ⟨[(0, .ref 0 0 n), (1, .fz int a), (2, .fz int b), (6, .fz .bool false), (7, .fz int i), (8, .fz int st), (9, .fz int x.2)], [.row int x.1]⟩, fun x => Pdq.SP 0 a b xs x.1 ∧ Pdq.InsI ltI 0 a x.2 (i - 1) x.1, fun x => x.2, (zs, i - 1), ⟨hspz, Pdq.ins_start (by omega) hsz⟩, Ent.sub (congrArg (fun l => [AO.row int l]) eS) ?_, ?_⟩
            · (repeat' (first | exact trivial | exact rfl | refine And.intro ?_ ?_))
              exact congrArg (AV.fz int) (show (i : Int) - 1 = ((i - 1 : Nat) : Int) by omega)
            rintro ⟨ws, j⟩ ⟨hsw, hin⟩
            have hsw : Pdq.SP 0 a b xs ws := hsw
            have hin : Pdq.InsI ltI 0 a j (i - 1) ws := hin
            have hlw := hsw.len
            have j1 := hin.1
            have j2 := hin.2.1
            show awp _ _ _ ⟨[(0, .ref 0 0 n), (1, .fz int a), (2, .fz int b), (6, .fz .bool false), (7, .fz int i), (8, .fz int st), (9, .fz int j)], [.row int ws]⟩
            by_cases hj : 1 ≤ j
            · have hpj : j = a → ltI (ws.getD j 0) (ws.getD (j - 1) 0) = false := fun e => by
                rcases hpre.sp hsw with h0 | h0
                · omega
                · rw [e]; exact h0 a (Nat.le_refl _) hab
              (repeat' (first | exact trivial | exact fun h => h | refine And.intro ?_ ?_ | (intro hb; try simp at hb) | omega | exact rfl | exact Nat.le_refl _ | (show _ + 1 ≤ 4294967296; omega) | (dsimp only; omega) | (show (_ : Int) ≤ (_ : Int); omega) | (show _ < List.length _; simp only [List.length_set, List.length_append, List.length_take]; omega) | (show wantB _ _ = true; simp <;> omega) | (show (_ : Bool) = _; simp_all; done) | (exfalso; omega) | refine aRegion_auto (by decide +kernel) ?_ | fail))
              apply exEff
              · (repeat' (first | refine And.intro ?_ ?_ | omega))
                refine acall_frame0 rfl (less_int _ _ _ _ ?_)
                exact ⟨rfl, rfl⟩
              (repeat' (first | exact trivial | exact fun h => h | refine And.intro ?_ ?_ | (intro hb; try simp at hb) | omega | exact rfl | exact Nat.le_refl _ | (show _ + 1 ≤ 4294967296; omega) | (dsimp only; omega) | (show (_ : Int) ≤ (_ : Int); omega) | (show _ < List.length _; simp only [List.length_set, List.length_append, List.length_take]; omega) | (show wantB _ _ = true; simp <;> omega) | (show (_ : Bool) = _; simp_all; done) | (exfalso; omega) | refine aRegion_auto (by decide +kernel) ?_ | fail))
              · have hl : ltI (ws.getD j 0) (ws.getD (j - 1) 0) = false := by
                  rw [get_q, get_q] at hb
                  exact hb
                refine ⟨[(0, .ref 0 0 n), (1, .fz int a), (2, .fz int b), (6, .fz .bool false), (7, .fz int i), (8, .fz int st)], [.row int ws], Ent.sub rfl ?_, hc.out ws ⟨hsw, ?_⟩⟩
                · (repeat' (first | exact trivial | exact rfl | refine And.intro ?_ ?_))
                · rw [show i = i - 1 + 1 by omega]
                  refine Pdq.ins_end ltI_ok hin ?_
                  by_cases e : j = a
                  · exact .inl e
                  · exact .inr ⟨by omega, hl⟩
              · have hl : ltI (ws.getD j 0) (ws.getD (j - 1) 0) = true := by
                  rw [get_q, get_q] at hb
                  exact hb
                have haj : a < j := by
                  have : ¬ j = a := fun e => by rw [hpj e] at hl; cases hl
                  omega
                (apply exEff; focus (repeat' (first | exact ⟨rfl, rfl⟩ | exact trivial | refine And.intro ?_ ?_ | omega | exact Nat.le_refl _ | (show _ + 1 ≤ 4294967296; omega))))
                (repeat' (first | exact trivial | exact fun h => h | refine And.intro ?_ ?_ | (intro hb; try simp at hb) | omega | exact rfl | exact Nat.le_refl _ | (show _ + 1 ≤ 4294967296; omega) | (dsimp only; omega) | (show (_ : Int) ≤ (_ : Int); omega) | (show _ < List.length _; simp only [List.length_set, List.length_append, List.length_take]; omega) | (show wantB _ _ = true; simp <;> omega) | (show (_ : Bool) = _; simp_all; done) | (exfalso; omega) | refine aRegion_auto (by decide +kernel) ?_ | fail))
                (apply exEff; focus (repeat' (first | exact ⟨rfl, rfl⟩ | exact trivial | refine And.intro ?_ ?_ | omega | exact Nat.le_refl _ | (show _ + 1 ≤ 4294967296; omega))))
                (repeat' (first | exact trivial | exact fun h => h | refine And.intro ?_ ?_ | (intro hb; try simp at hb) | omega | exact rfl | exact Nat.le_refl _ | (show _ + 1 ≤ 4294967296; omega) | (dsimp only; omega) | (show (_ : Int) ≤ (_ : Int); omega) | (show _ < List.length _; simp only [List.length_set, List.length_append, List.length_take]; omega) | (show wantB _ _ = true; simp <;> omega) | (show (_ : Bool) = _; simp_all; done) | (exfalso; omega) | refine aRegion_auto (by decide +kernel) ?_ | fail))
                have eS := set_sw (xs := ws) (x := (j : Int)) (y := (j : Int) - 1) (i := j) (j := j - 1) (u := ws.getD (j - 1) 0) (v := ws.getD j 0) (by omega) (by omega) rfl rfl
                have eG : List.getD ws (0 + Int.toNat ((j : Int) - 1)) int.dft = ws.getD (j - 1) 0 := get_at (by omega)
                have eH : List.getD ws (0 + Int.toNat (j : Int)) int.dft = ws.getD j 0 := get_at (by omega)
                rw [← eG, ← eH] at eS
                refine ⟨(Pdq.sw 0 ws j (j - 1), j - 1), ⟨.step hsw ⟨by omega, by omega⟩ ⟨by omega, by omega⟩ (by omega), Pdq.ins_step ltI_ok hin (by omega) haj hl⟩, by show j - 1 < j; omega, Ent.sub (congrArg (fun l => [AO.row int l]) eS) ?_⟩
                (repeat' (first | exact trivial | exact rfl | refine And.intro ?_ ?_))
                all_goals exact congrArg (AV.fz int) (show (j : Int) - 1 = ((j - 1 : Nat) : Int) by omega)
            · (repeat' (first | exact trivial | exact fun h => h | refine And.intro ?_ ?_ | (intro hb; try simp at hb) | omega | exact rfl | exact Nat.le_refl _ | (show _ + 1 ≤ 4294967296; omega) | (dsimp only; omega) | (show (_ : Int) ≤ (_ : Int); omega) | (show _ < List.length _; simp only [List.length_set, List.length_append, List.length_take]; omega) | (show wantB _ _ = true; simp <;> omega) | (show (_ : Bool) = _; simp_all; done) | (exfalso; omega) | refine aRegion_auto (by decide +kernel) ?_ | fail))
              refine ⟨[(0, .ref 0 0 n), (1, .fz int a), (2, .fz int b), (6, .fz .bool false), (7, .fz int i), (8, .fz int st)], [.row int ws], Ent.sub rfl ?_, hc.out ws ⟨hsw, by rw [show i = i - 1 + 1 by omega]; exact Pdq.ins_end ltI_ok hin (.inl (by omega))⟩⟩
              (repeat' (first | exact trivial | exact rfl | refine And.intro ?_ ?_))
          · (apply exEff; focus (repeat' (first | exact ⟨rfl, rfl⟩ | exact trivial | refine And.intro ?_ ?_ | omega | exact Nat.le_refl _ | (show _ + 1 ≤ 4294967296; omega))))
            (repeat' (first | exact trivial | exact fun h => h | refine And.intro ?_ ?_ | (intro hb; try simp at hb) | omega | exact rfl | exact Nat.le_refl _ | (show _ + 1 ≤ 4294967296; omega) | (dsimp only; omega) | (show (_ : Int) ≤ (_ : Int); omega) | (show _ < List.length _; simp only [List.length_set, List.length_append, List.length_take]; omega) | (show wantB _ _ = true; simp <;> omega) | (show (_ : Bool) = _; simp_all; done) | (exfalso; omega) | refine aRegion_auto (by decide +kernel) ?_ | fail))
            (apply exEff; focus (repeat' (first | exact ⟨rfl, rfl⟩ | exact trivial | refine And.intro ?_ ?_ | omega | exact Nat.le_refl _ | (show _ + 1 ≤ 4294967296; omega))))
            (repeat' (first | exact trivial | exact fun h => h | refine And.intro ?_ ?_ | (intro hb; try simp at hb) | omega | exact rfl | exact Nat.le_refl _ | (show _ + 1 ≤ 4294967296; omega) | (dsimp only; omega) | (show (_ : Int) ≤ (_ : Int); omega) | (show _ < List.length _; simp only [List.length_set, List.length_append, List.length_take]; omega) | (show wantB _ _ = true; simp <;> omega) | (show (_ : Bool) = _; simp_all; done) | (exfalso; omega) | refine aRegion_auto (by decide +kernel) ?_ | fail))
            refine ⟨[(0, .ref 0 0 n), (1, .fz int a), (2, .fz int b), (6, .fz .bool false), (7, .fz int i), (8, .fz int st)], [.row int zs], Ent.sub (congrArg (fun l => [AO.row int l]) eS) ?_, hc.out zs ⟨hspz, fun p q k1 k2 k3 => by omega⟩⟩
            (repeat' (first | exact trivial | exact rfl | refine And.intro ?_ ?_))
        clear hsr hsz eS eG eH hspz hyz hlz ezs zs
        intro ws ⟨hsw, hsr⟩
        have hlw := hsw.len
        by_cases hbi : i + 2 ≤ b
        · (repeat' (first | exact trivial | exact fun h => h | refine And.intro ?_ ?_ | (intro hb; try simp at hb) | omega | exact rfl | exact Nat.le_refl _ | (show _ + 1 ≤ 4294967296; omega) | (dsimp only; omega) | (show (_ : Int) ≤ (_ : Int); omega) | (show _ < List.length _; simp only [List.length_set, List.length_append, List.length_take]; omega) | (show wantB _ _ = true; simp <;> omega) | (show (_ : Bool) = _; simp_all; done) | (exfalso; omega) | refine aRegion_auto (by decide +kernel) ?_ | fail))
          refine ⟨List Int × Nat, fun x => ⟨[(0, .ref 0 0 n), (1, .fz int a), (2, .fz int b), (6, .fz .bool false), (7, .fz int i), (8, .fz int st), (10, .fz int x.2)], [.row int x.1]⟩, fun x => Pdq.SP 0 a b xs x.1 ∧ Pdq.Srt ltI 0 a i x.1 ∧ i + 1 ≤ x.2 ∧ x.2 ≤ b, fun x => b - x.2, (ws, i + 1), ⟨hsw, hsr, Nat.le_refl _, by show i + 1 ≤ b; omega⟩, Ent.sub rfl ?_, ?_⟩
          · (repeat' (first | exact trivial | exact rfl | refine And.intro ?_ ?_))
          clear hsw hsr hlw ws
          rintro ⟨ws, j⟩ ⟨hsw, hsr, j1, j2⟩
          have hsw : Pdq.SP 0 a b xs ws := hsw
          have hsr : Pdq.Srt ltI 0 a i ws := hsr
          have j1 : i + 1 ≤ j := j1
          have j2 : j ≤ b := j2
          have hlw := hsw.len
          show awp _ _ _ ⟨[(0, .ref 0 0 n), (1, .fz int a), (2, .fz int b), (6, .fz .bool false), (7, .fz int i), (8, .fz int st), (10, .fz int j)], [.row int ws]⟩
          by_cases hj : j < b
          · (repeat' (first | exact trivial | exact fun h => h | refine And.intro ?_ ?_ | (intro hb; try simp at hb) | omega | exact rfl | exact Nat.le_refl _ | (show _ + 1 ≤ 4294967296; omega) | (dsimp only; omega) | (show (_ : Int) ≤ (_ : Int); omega) | (show _ < List.length _; simp only [List.length_set, List.length_append, List.length_take]; omega) | (show wantB _ _ = true; simp <;> omega) | (show (_ : Bool) = _; simp_all; done) | (exfalso; omega) | refine aRegion_auto (by decide +kernel) ?_ | fail))
            apply exEff
            · (repeat' (first | refine And.intro ?_ ?_ | omega))
              refine acall_frame0 rfl (less_int _ _ _ _ ?_)
              exact ⟨rfl, rfl⟩
            (repeat' (first | exact trivial | exact fun h => h | refine And.intro ?_ ?_ | (intro hb; try simp at hb) | omega | exact rfl | exact Nat.le_refl _ | (show _ + 1 ≤ 4294967296; omega) | (dsimp only; omega) | (show (_ : Int) ≤ (_ : Int); omega) | (show _ < List.length _; simp only [List.length_set, List.length_append, List.length_take]; omega) | (show wantB _ _ = true; simp <;> omega) | (show (_ : Bool) = _; simp_all; done) | (exfalso; omega) | refine aRegion_auto (by decide +kernel) ?_ | fail))
            · refine ⟨(ws, i, st + 1), ⟨h1, h2, by show st + 1 ≤ 5; omega, hsw, hsr⟩, by show 5 - (st + 1) < 5 - st; omega, Ent.sub rfl ?_⟩
              (repeat' (first | exact trivial | exact rfl | refine And.intro ?_ ?_))
            · have hz : Pdq.SP 0 i b ws (Pdq.sw 0 ws j (j - 1)) := .step (.refl _) ⟨by omega, by omega⟩ ⟨by omega, by omega⟩ (by omega)
              (apply exEff; focus (repeat' (first | exact ⟨rfl, rfl⟩ | exact trivial | refine And.intro ?_ ?_ | omega | exact Nat.le_refl _ | (show _ + 1 ≤ 4294967296; omega))))
              (repeat' (first | exact trivial | exact fun h => h | refine And.intro ?_ ?_ | (intro hb; try simp at hb) | omega | exact rfl | exact Nat.le_refl _ | (show _ + 1 ≤ 4294967296; omega) | (dsimp only; omega) | (show (_ : Int) ≤ (_ : Int); omega) | (show _ < List.length _; simp only [List.length_set, List.length_append, List.length_take]; omega) | (show wantB _ _ = true; simp <;> omega) | (show (_ : Bool) = _; simp_all; done) | (exfalso; omega) | refine aRegion_auto (by decide +kernel) ?_ | fail))
              (apply exEff; focus (repeat' (first | exact ⟨rfl, rfl⟩ | exact trivial | refine And.intro ?_ ?_ | omega | exact Nat.le_refl _ | (show _ + 1 ≤ 4294967296; omega))))
              (repeat' (first | exact trivial | exact fun h => h | refine And.intro ?_ ?_ | (intro hb; try simp at hb) | omega | exact rfl | exact Nat.le_refl _ | (show _ + 1 ≤ 4294967296; omega) | (dsimp only; omega) | (show (_ : Int) ≤ (_ : Int); omega) | (show _ < List.length _; simp only [List.length_set, List.length_append, List.length_take]; omega) | (show wantB _ _ = true; simp <;> omega) | (show (_ : Bool) = _; simp_all; done) | (exfalso; omega) | refine aRegion_auto (by decide +kernel) ?_ | fail))
              have eS := set_sw (xs := ws) (x := (j : Int)) (y := (j : Int) - 1) (i := j) (j := j - 1) (u := ws.getD (j - 1) 0) (v := ws.getD j 0) (by omega) (by omega) rfl rfl
              have eG : List.getD ws (0 + Int.toNat ((j : Int) - 1)) int.dft = ws.getD (j - 1) 0 := get_at (by omega)
              have eH : List.getD ws (0 + Int.toNat (j : Int)) int.dft = ws.getD j 0 := get_at (by omega)
              rw [← eG, ← eH] at eS
              refine ⟨(Pdq.sw 0 ws j (j - 1), j + 1), ⟨.step hsw ⟨by omega, by omega⟩ ⟨by omega, by omega⟩ (by omega), srt_out hsr hz, by show i + 1 ≤ j + 1; omega, by show j + 1 ≤ b; omega⟩, by show b - (j + 1) < b - j; omega, Ent.sub (congrArg (fun l => [AO.row int l]) eS) ?_⟩
              (repeat' (first | exact trivial | exact rfl | refine And.intro ?_ ?_))
          · (repeat' (first | exact trivial | exact fun h => h | refine And.intro ?_ ?_ | (intro hb; try simp at hb) | omega | exact rfl | exact Nat.le_refl _ | (show _ + 1 ≤ 4294967296; omega) | (dsimp only; omega) | (show (_ : Int) ≤ (_ : Int); omega) | (show _ < List.length _; simp only [List.length_set, List.length_append, List.length_take]; omega) | (show wantB _ _ = true; simp <;> omega) | (show (_ : Bool) = _; simp_all; done) | (exfalso; omega) | refine aRegion_auto (by decide +kernel) ?_ | fail))
            refine ⟨(ws, i, st + 1), ⟨h1, h2, by show st + 1 ≤ 5; omega, hsw, hsr⟩, by show 5 - (st + 1) < 5 - st; omega, Ent.sub rfl ?_⟩
            (repeat' (first | exact trivial | exact rfl | refine And.intro ?_ ?_))
        · (repeat' (first | exact trivial | exact fun h => h | refine And.intro ?_ ?_ | (intro hb; try simp at hb) | omega | exact rfl | exact Nat.le_refl _ | (show _ + 1 ≤ 4294967296; omega) | (dsimp only; omega) | (show (_ : Int) ≤ (_ : Int); omega) | (show _ < List.length _; simp only [List.length_set, List.length_append, List.length_take]; omega) | (show wantB _ _ = true; simp <;> omega) | (show (_ : Bool) = _; simp_all; done) | (exfalso; omega) | refine aRegion_auto (by decide +kernel) ?_ | fail))
          refine ⟨(ws, i, st + 1), ⟨h1, h2, by show st + 1 ≤ 5; omega, hsw, hsr⟩, by show 5 - (st + 1) < 5 - st; omega, Ent.sub rfl ?_⟩
          (repeat' (first | exact trivial | exact rfl | refine And.intro ?_ ?_))
    · have hie : i = b := by omega
      subst hie
      (repeat' (first | exact trivial | exact fun h => h | refine And.intro ?_ ?_ | (intro hb; try simp at hb) | omega | exact rfl | exact Nat.le_refl _ | (show _ + 1 ≤ 4294967296; omega) | (dsimp only; omega) | (show (_ : Int) ≤ (_ : Int); omega) | (show _ < List.length _; simp only [List.length_set, List.length_append, List.length_take]; omega) | (show wantB _ _ = true; simp <;> omega) | (show (_ : Bool) = _; simp_all; done) | (exfalso; omega) | refine aRegion_auto (by decide +kernel) ?_ | fail))
      apply exEff
      · refine ⟨fun h => absurd h (by simp), fun _ => ⟨rfl, rfl⟩⟩
      (repeat' (first | exact trivial | exact fun h => h | refine And.intro ?_ ?_ | (intro hb; try simp at hb) | omega | exact rfl | exact Nat.le_refl _ | (show _ + 1 ≤ 4294967296; omega) | (dsimp only; omega) | (show (_ : Int) ≤ (_ : Int); omega) | (show _ < List.length _; simp only [List.length_set, List.length_append, List.length_take]; omega) | (show wantB _ _ = true; simp <;> omega) | (show (_ : Bool) = _; simp_all; done) | (exfalso; omega) | refine aRegion_auto (by decide +kernel) ?_ | fail))
      all_goals first | exact decide_eq_false (by omega) | skip
      exact ⟨_, _, REnt.refl _ _ _, hK ys true hsp fun _ => hsr⟩
  · (repeat' (first | exact trivial | exact fun h => h | refine And.intro ?_ ?_ | (intro hb; try simp at hb) | omega | exact rfl | exact Nat.le_refl _ | (show _ + 1 ≤ 4294967296; omega) | (dsimp only; omega) | (show (_ : Int) ≤ (_ : Int); omega) | (show _ < List.length _; simp only [List.length_set, List.length_append, List.length_take]; omega) | (show wantB _ _ = true; simp <;> omega) | (show (_ : Bool) = _; simp_all; done) | (exfalso; omega) | refine aRegion_auto (by decide +kernel) ?_ | fail))
    exact ⟨_, _, REnt.refl _ _ _, hK ys false hsp fun h => by cases h⟩
end Go.Proofs.YtgjjooophigkoaaGreatDoor
/-
  Sorting numbers: what breaks patterns.
-/
namespace Go.Proofs.YtgjjooophigkoaaGreatDoor
open Go Go.Ab
set_option maxRecDepth 100000
theorem u64_wrap (n : Int) : 0 ≤ IntKind.wrap .u64 n ∧ IntKind.wrap .u64 n < 18446744073709551616 := by
  have e : IntKind.wrap .u64 n = n % 18446744073709551616 := by
    unfold IntKind.wrap
    simp [IntKind.signed, IntKind.bits]
  rw [e]; omega
theorem u64_xor (a b : Int) : 0 ≤ bitI .xor .u64 a b ∧ bitI .xor .u64 a b < 18446744073709551616 := u64_wrap _
theorem next_any (G : List (Nat × Value)) (x : Int) (h0 : 0 ≤ x) (h1 : x < 18446744073709551616) (K : AV → List AO → Prop) (hK : ∀ y : Int, 0 ≤ y → y < 18446744073709551616 → K (.fz (.int .u64) y) [.box [.fz (.int .u64) y]]) :
    ACall Tryz.prog G 155 [.ptr 0 0] [.box [.fz (.int .u64) x]] K := by
  refine acall_mk (E := envAt G 33 1) (envOk _ _ _) Tryz.func155 rfl rfl rfl rfl rfl ?_
  (repeat' (first | exact trivial | exact fun h => h | refine And.intro ?_ ?_ | (intro hb; try simp at hb) | omega | exact rfl | exact Nat.le_refl _ | (show _ + 1 ≤ 4294967296; omega) | (dsimp only; omega) | (show (_ : Int) ≤ (_ : Int); omega) | (show _ < List.length _; simp only [List.length_set, List.length_append, List.length_take]; omega) | (show wantB _ _ = true; simp <;> omega) | (show (_ : Bool) = _; simp_all; done) | (exfalso; omega) | refine aRegion_auto (by decide +kernel) ?_ | fail))
  (apply exEff; focus (repeat' (first | exact ⟨rfl, rfl⟩ | exact trivial | refine And.intro ?_ ?_ | omega | exact Nat.le_refl _ | (show _ + 1 ≤ 4294967296; omega))))
  (repeat' (first | exact trivial | exact fun h => h | refine And.intro ?_ ?_ | (intro hb; try simp at hb) | omega | exact rfl | exact Nat.le_refl _ | (show _ + 1 ≤ 4294967296; omega) | (dsimp only; omega) | (show (_ : Int) ≤ (_ : Int); omega) | (show _ < List.length _; simp only [List.length_set, List.length_append, List.length_take]; omega) | (show wantB _ _ = true; simp <;> omega) | (show (_ : Bool) = _; simp_all; done) | (exfalso; omega) | refine aRegion_auto (by decide +kernel) ?_ | fail))
  (apply exEff; focus (repeat' (first | exact ⟨rfl, rfl⟩ | exact trivial | refine And.intro ?_ ?_ | omega | exact Nat.le_refl _ | (show _ + 1 ≤ 4294967296; omega))))
  (repeat' (first | exact trivial | exact fun h => h | refine And.intro ?_ ?_ | (intro hb; try simp at hb) | omega | exact rfl | exact Nat.le_refl _ | (show _ + 1 ≤ 4294967296; omega) | (dsimp only; omega) | (show (_ : Int) ≤ (_ : Int); omega) | (show _ < List.length _; simp only [List.length_set, List.length_append, List.length_take]; omega) | (show wantB _ _ = true; simp <;> omega) | (show (_ : Bool) = _; simp_all; done) | (exfalso; omega) | refine aRegion_auto (by decide +kernel) ?_ | fail))
  (apply exEff; focus (repeat' (first | exact ⟨rfl, rfl⟩ | exact trivial | refine And.intro ?_ ?_ | omega | exact Nat.le_refl _ | (show _ + 1 ≤ 4294967296; omega))))
  (repeat' (first | exact trivial | exact fun h => h | refine And.intro ?_ ?_ | (intro hb; try simp at hb) | omega | exact rfl | exact Nat.le_refl _ | (show _ + 1 ≤ 4294967296; omega) | (dsimp only; omega) | (show (_ : Int) ≤ (_ : Int); omega) | (show _ < List.length _; simp only [List.length_set, List.length_append, List.length_take]; omega) | (show wantB _ _ = true; simp <;> omega) | (show (_ : Bool) = _; simp_all; done) | (exfalso; omega) | refine aRegion_auto (by decide +kernel) ?_ | fail))
  exact ⟨_, _, REnt.refl _ _ _, hK _ (u64_xor _ _).1 (u64_xor _ _).2⟩
end Go.Proofs.YtgjjooophigkoaaGreatDoor
/-
  Sorting numbers: the length of a number in bits.
-/
namespace Go.Proofs.YtgjjooophigkoaaGreatDoor
open Go Go.Ab
set_option maxRecDepth 100000
def bl (x : Nat) : Nat := if x = 0 then 0 else x.log2 + 1
theorem len64_any (G : List (Nat × Value)) (x : Nat) (h : x < 256) (K : AV → List AO → Prop) (hK : K (.fz int (bl x : Nat)) []) :
    ACall Tryz.prog G 119 [.fz (.int .u64) (x : Int)] [] K := by
  refine acall_mk (E := envAt G 25 0) (envOk _ _ _) Tryz.func119 rfl rfl rfl rfl rfl ?_
  (repeat' (first | exact trivial | exact fun h => h | refine And.intro ?_ ?_ | (intro hb; try simp at hb) | omega | exact rfl | exact Nat.le_refl _ | (show _ + 1 ≤ 4294967296; omega) | (dsimp only; omega) | (show (_ : Int) ≤ (_ : Int); omega) | (show _ < List.length _; simp only [List.length_set, List.length_append, List.length_take]; omega) | (show wantB _ _ = true; simp <;> omega) | (show (_ : Bool) = _; simp_all; done) | (exfalso; omega) | refine aRegion_auto (by decide +kernel) ?_ | refine ⟨_, _, REnt.drop ⟨rfl, rfl⟩, ?_⟩ | fail))
  rotate_right
  · refine (congrArg (fun z => K (.fz int z) []) ?_).mpr hK
    clear hK
    revert x
    decide +kernel
  all_goals clear hK
  all_goals revert x
  all_goals decide +kernel
theorem bitsLen_any (G : List (Nat × Value)) (x : Nat) (h : x < 256) (K : AV → List AO → Prop) (hK : K (.fz int (bl x : Nat)) []) :
    ACall Tryz.prog G 88 [.fz (.int .u64) (x : Int)] [] K := by
  refine acall_mk (E := envAt G 8 0) (envOk _ _ _) Tryz.func88 rfl rfl rfl rfl rfl ?_
  (repeat' (first | exact trivial | exact fun h => h | refine And.intro ?_ ?_ | (intro hb; try simp at hb) | omega | exact rfl | exact Nat.le_refl _ | (show _ + 1 ≤ 4294967296; omega) | (dsimp only; omega) | (show (_ : Int) ≤ (_ : Int); omega) | (show _ < List.length _; simp only [List.length_set, List.length_append, List.length_take]; omega) | (show wantB _ _ = true; simp <;> omega) | (show (_ : Bool) = _; simp_all; done) | (exfalso; omega) | refine aRegion_auto (by decide +kernel) ?_ | refine ⟨_, _, REnt.drop ⟨rfl, rfl⟩, ?_⟩ | fail))
  refine acall_frame0 rfl (len64_any _ x h _ ?_)
  (repeat' (first | exact trivial | exact fun h => h | refine And.intro ?_ ?_ | (intro hb; try simp at hb) | omega | exact rfl | exact Nat.le_refl _ | (show _ + 1 ≤ 4294967296; omega) | (dsimp only; omega) | (show (_ : Int) ≤ (_ : Int); omega) | (show _ < List.length _; simp only [List.length_set, List.length_append, List.length_take]; omega) | (show wantB _ _ = true; simp <;> omega) | (show (_ : Bool) = _; simp_all; done) | (exfalso; omega) | refine aRegion_auto (by decide +kernel) ?_ | refine ⟨_, _, REnt.drop ⟨rfl, rfl⟩, ?_⟩ | fail))
  exact hK
theorem nextPow_any (G : List (Nat × Value)) (x : Nat) (h : x < 256) (K : AV → List AO → Prop) (hK : K (.fz (.int .u64) ((2 ^ bl x : Nat) : Int)) []) :
    ACall Tryz.prog G 154 [.fz int (x : Int)] [] K := by
  have hw : IntKind.wrap .u64 (x : Int) = x := by
    clear hK
    revert x
    decide +kernel
  refine acall_mk (E := envAt G 7 0) (envOk _ _ _) Tryz.func154 rfl rfl rfl rfl rfl ?_
  (repeat' (first | exact trivial | exact fun h => h | refine And.intro ?_ ?_ | (intro hb; try simp at hb) | omega | exact rfl | exact Nat.le_refl _ | (show _ + 1 ≤ 4294967296; omega) | (dsimp only; omega) | (show (_ : Int) ≤ (_ : Int); omega) | (show _ < List.length _; simp only [List.length_set, List.length_append, List.length_take]; omega) | (show wantB _ _ = true; simp <;> omega) | (show (_ : Bool) = _; simp_all; done) | (exfalso; omega) | refine aRegion_auto (by decide +kernel) ?_ | refine ⟨_, _, REnt.drop ⟨rfl, rfl⟩, ?_⟩ | fail))
  refine acall_frame0 rfl (acall_arg (bitsLen_any _ x h _ ?_) (congrArg (fun z => [AV.fz (.int .u64) z]) hw.symm))
  (repeat' (first | exact trivial | exact fun h => h | refine And.intro ?_ ?_ | (intro hb; try simp at hb) | omega | exact rfl | exact Nat.le_refl _ | (show _ + 1 ≤ 4294967296; omega) | (dsimp only; omega) | (show (_ : Int) ≤ (_ : Int); omega) | (show _ < List.length _; simp only [List.length_set, List.length_append, List.length_take]; omega) | (show wantB _ _ = true; simp <;> omega) | (show (_ : Bool) = _; simp_all; done) | (exfalso; omega) | refine aRegion_auto (by decide +kernel) ?_ | refine ⟨_, _, REnt.drop ⟨rfl, rfl⟩, ?_⟩ | fail))
  all_goals first | exact Int.natCast_nonneg _ | skip
  refine (congrArg (fun z => K (.fz (.int .u64) z) []) ?_).mpr hK
  clear hw hK
  revert x
  decide +kernel
end Go.Proofs.YtgjjooophigkoaaGreatDoor
