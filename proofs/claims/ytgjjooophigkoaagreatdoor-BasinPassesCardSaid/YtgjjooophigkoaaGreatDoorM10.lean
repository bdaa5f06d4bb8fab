/-
  What belongs together: the root of a number, the way made short.
-/
import Derived.Test.YtgjjooophigkoaaGreatDoorM9
namespace Go.Proofs.YtgjjooophigkoaaGreatDoor
open Go Go.Ab Ps
set_option maxRecDepth 100000
/-- a map from numbers to numbers, as the state knows it: stamps and keys; what it leads to -/
def ofO (bm clk : Nat) (ks : List (Nat × Nat)) (f : Nat → Nat) : AO := .mapo (.map bm clk (ks.map fun e => (e.1, kv1 (e.2 : Int)))) (ks.map fun e => .fz int (f e.2 : Int))
/-- keys that are few and small; f leads down, among them -/
structure Kys (ks : List (Nat × Nat)) : Prop where
  nd : (ks.map (·.2)).Nodup
  small : ∀ e ∈ ks, e.2 < 16384
structure Dn (ks : List (Nat × Nat)) (f : Nat → Nat) : Prop where
  le : ∀ x, f x ≤ x
  keys : ∀ x, x ∈ ks.map (·.2) → f x ∈ ks.map (·.2)
theorem kv1_nat {x y : Nat} : kv1 (x : Int) = kv1 (y : Int) ↔ x = y := by rw [kv1_inj]; omega
theorem ofO_key {ks : List (Nat × Nat)} (h : Kys ks) : ∀ p ∈ ks.map (fun e => (e.1, kv1 (e.2 : Int))), ∃ l, keyOf Tryz.prog 3 p.2 = some l := fun p hp => by
  obtain ⟨e, he, rfl⟩ := List.mem_map.1 hp
  have := h.small e he
  exact key1_ok (by omega)
theorem of_at {ks : List (Nat × Nat)} {j x : Nat} {p : Nat × Value} (hj : (ks.map fun e => (e.1, kv1 (e.2 : Int)))[j]? = some p) (hp : p.2 = kv1 (x : Int)) : ∃ e, ks[j]? = some e ∧ e.2 = x := by
  rw [List.getElem?_map] at hj
  cases hS : ks[j]? with
  | none => rw [hS] at hj; cases hj
  | some e =>
    rw [hS] at hj
    simp only [Option.map_some, Option.some.injEq] at hj
    subst hj
    exact ⟨e, rfl, kv1_nat.1 hp⟩
theorem of_set {ks : List (Nat × Nat)} (hk : Kys ks) {f : Nat → Nat} {j : Nat} {e : Nat × Nat} (he : ks[j]? = some e) (v : Nat) :
    (ks.map fun e => AV.fz int (f e.2 : Int)).set j (.fz int (v : Int)) = ks.map fun e' => AV.fz int ((if e'.2 = e.2 then v else f e'.2 : Nat) : Int) := by
  apply List.ext_getElem?
  intro m
  rw [List.getElem?_set, List.getElem?_map, List.length_map]
  by_cases hjm : j = m
  · subst hjm
    rw [if_pos rfl, if_pos (get_lt he), List.getElem?_map, he]
    simp
  · rw [if_neg hjm, List.getElem?_map]
    cases hm : ks[m]? with
    | none => rfl
    | some e' =>
      have hne : e'.2 ≠ e.2 := fun h => by
        have h1 : (ks.map (·.2))[j]? = (ks.map (·.2))[m]? := by rw [List.getElem?_map, List.getElem?_map, he, hm]; simp [h]
        exact hjm ((List.getElem?_inj (by simpa using get_lt he) hk.nd).1 h1)
      simp [hne]
theorem cp_dn {ks : List (Nat × Nat)} {f : Nat → Nat} (h : Dn ks f) (x : Nat) : Dn ks (Uf.cp f x) :=
  ⟨Uf.cp_le h.le x, fun y hy => by
    unfold Uf.cp
    split
    · exact Uf.R_keys (I := fun z => z ∈ ks.map (·.2)) (fun z hz => h.keys z hz) h.le y hy
    · exact h.keys y hy⟩
abbrev rtA (bm clk : Nat) (ks : List (Nat × Nat)) (f : Nat → Nat) : List AO := [.box [.ptr 2 0], .box [.fn 62 [.ptr 0 0, .ptr 1 0]], ofO bm clk ks f]
theorem root_any (G : List (Nat × Value)) (bm clk : Nat) (ks : List (Nat × Nat)) (hk : Kys ks) : ∀ (x : Nat) (f : Nat → Nat) (_ : Dn ks f) (_ : x ∈ ks.map (·.2)) (K : AV → List AO → Prop) (_ : K (.fz int (Uf.R f x : Nat)) (rtA bm clk ks (Uf.cp f x))),
    ACall Tryz.prog G 62 [.fz int x, .ptr 0 0, .ptr 1 0] (rtA bm clk ks f) K := by
  intro x
  induction x using Nat.strongRecOn with
  | _ x ih =>
    intro f hf hx K hK
    have hx16 : x < 16384 := by
      obtain ⟨e, he, rfl⟩ := List.mem_map.1 hx
      exact hk.small e he
    obtain ⟨e0, he0, hex⟩ := List.mem_map.1 hx
    have hall : ¬ ∀ p ∈ ks.map (fun e => (e.1, kv1 (e.2 : Int))), p.2 ≠ kv1 (x : Int) := fun h => h _ (List.mem_map.2 ⟨e0, he0, rfl⟩) (by rw [← hex])
    refine acall_mk (E := envAt G 20 3) (envOk _ _ _) Tryz.func62 rfl rfl rfl rfl rfl ?_
    (repeat' (first | exact trivial | exact fun h => h | refine And.intro ?_ ?_ | (intro hb; try simp at hb) | omega | exact rfl | exact Nat.le_refl _ | (show _ + 1 ≤ 4294967296; omega) | (dsimp only; omega) | (show (_ : Int) ≤ (_ : Int); omega) | (show _ < List.length _; simp only [List.length_set, List.length_append, List.length_take]; omega) | (show wantB _ _ = true; simp <;> omega) | (show (_ : Bool) = _; simp_all; done) | (exfalso; omega) | refine aRegion_auto (by decide +kernel) ?_ | fail))
    refine aact_lookup (tok := 2) (off := 0) (bm := bm) (clock := clk) (ks := ks.map fun e => (e.1, kv1 (e.2 : Int))) (vs := ks.map fun e => .fz int (f e.2 : Int)) (kv := kv1 (x : Int)) ?_ ?_ Tryz.underlying126 keyed1 (fun c v h => ?_) (key1_ok (by omega)) (ofO_key hk) zero_int (fun hno => absurd hno hall) (fun j y av hj hy hav => ?_)
    · rfl
    · rfl
    · exact rel_kv1 c v h
    obtain ⟨e, he, hee⟩ := of_at hj hy
    have hav : av = .fz int (f x : Int) := by
      rw [List.getElem?_map, he] at hav
      rw [← hee]
      simpa using hav.symm
    subst hav
    by_cases hfx : f x = x
    · (repeat' (first | exact trivial | exact fun h => h | refine And.intro ?_ ?_ | (intro hb; try simp at hb) | omega | exact rfl | exact Nat.le_refl _ | (show _ + 1 ≤ 4294967296; omega) | (dsimp only; omega) | (show (_ : Int) ≤ (_ : Int); omega) | (show _ < List.length _; simp only [List.length_set, List.length_append, List.length_take]; omega) | (show wantB _ _ = true; simp <;> omega) | (show (_ : Bool) = _; simp_all; done) | (exfalso; omega) | refine aRegion_auto (by decide +kernel) ?_ | fail))
      refine aact_lookup (tok := 2) (off := 0) (bm := bm) (clock := clk) (ks := ks.map fun e => (e.1, kv1 (e.2 : Int))) (vs := ks.map fun e => .fz int (f e.2 : Int)) (kv := kv1 (x : Int)) ?_ ?_ Tryz.underlying126 keyed1 (fun c v h => ?_) (key1_ok (by omega)) (ofO_key hk) zero_int (fun hno => absurd hno hall) (fun j y av hj hy hav => ?_)
      · rfl
      · rfl
      · exact rel_kv1 c v h
      obtain ⟨e, he, hee⟩ := of_at hj hy
      have hav : av = .fz int (f x : Int) := by
        rw [List.getElem?_map, he] at hav
        rw [← hee]
        simpa using hav.symm
      subst hav
      (repeat' (first | exact trivial | exact fun h => h | refine And.intro ?_ ?_ | (intro hb; try simp at hb) | omega | exact rfl | exact Nat.le_refl _ | (show _ + 1 ≤ 4294967296; omega) | (dsimp only; omega) | (show (_ : Int) ≤ (_ : Int); omega) | (show _ < List.length _; simp only [List.length_set, List.length_append, List.length_take]; omega) | (show wantB _ _ = true; simp <;> omega) | (show (_ : Bool) = _; simp_all; done) | (exfalso; omega) | refine aRegion_auto (by decide +kernel) ?_ | fail))
      refine ⟨_, _, REnt.refl _ _ _, ?_⟩
      rw [Uf.cp_root hfx, Uf.R_root hfx] at hK
      rw [hfx]; exact hK
    · have hlt : f x < x := by have := hf.le x; omega
      obtain ⟨y, hy0⟩ : ∃ y, f x = y := ⟨_, rfl⟩
      obtain ⟨g, hg0⟩ : ∃ g, Uf.cp f y = g := ⟨_, rfl⟩
      have hR : Uf.R f y = Uf.R f x := by rw [← hy0]; exact Uf.R_step hf.le x
      have hst : (fun z => if z = x then Uf.R f x else g z) = Uf.cp f x := by rw [← hg0, ← hy0]; exact Uf.cp_step x
      have hgd : Dn ks g := by rw [← hg0]; exact cp_dn hf y
      (repeat' (first | exact trivial | exact fun h => h | refine And.intro ?_ ?_ | (intro hb; try simp at hb) | omega | exact rfl | exact Nat.le_refl _ | (show _ + 1 ≤ 4294967296; omega) | (dsimp only; omega) | (show (_ : Int) ≤ (_ : Int); omega) | (show _ < List.length _; simp only [List.length_set, List.length_append, List.length_take]; omega) | (show wantB _ _ = true; simp <;> omega) | (show (_ : Bool) = _; simp_all; done) | (exfalso; omega) | refine aRegion_auto (by decide +kernel) ?_ | fail))
      refine exEff (v0 := .fz int (f x : Int)) (A0 := rtA bm clk ks f) ?_ ?_
      · refine aact_lookup (tok := 2) (off := 0) (bm := bm) (clock := clk) (ks := ks.map fun e => (e.1, kv1 (e.2 : Int))) (vs := ks.map fun e => .fz int (f e.2 : Int)) (kv := kv1 (x : Int)) ?_ ?_ Tryz.underlying126 keyed1 (fun c v h => ?_) (key1_ok (by omega)) (ofO_key hk) zero_int (fun hno => absurd hno hall) (fun j y av hj hy hav => ?_)
        · rfl
        · rfl
        · exact rel_kv1 c v h
        obtain ⟨e, he, hee⟩ := of_at hj hy
        have hav : av = .fz int (f x : Int) := by
          rw [List.getElem?_map, he] at hav
          rw [← hee]
          simpa using hav.symm
        subst hav
        exact ⟨rfl, rfl⟩
      rw [hy0]
      (repeat' (first | exact trivial | exact fun h => h | refine And.intro ?_ ?_ | (intro hb; try simp at hb) | omega | exact rfl | exact Nat.le_refl _ | (show _ + 1 ≤ 4294967296; omega) | (dsimp only; omega) | (show (_ : Int) ≤ (_ : Int); omega) | (show _ < List.length _; simp only [List.length_set, List.length_append, List.length_take]; omega) | (show wantB _ _ = true; simp <;> omega) | (show (_ : Bool) = _; simp_all; done) | (exfalso; omega) | refine aRegion_auto (by decide +kernel) ?_ | fail))
      refine exEff (v0 := .fz int (Uf.R f x : Nat)) (A0 := rtA bm clk ks g) ?_ ?_
      · refine ih y (by omega) f hf (by rw [← hy0]; exact hf.keys x hx) _ ?_
        rw [hR, hg0]; exact ⟨rfl, rfl⟩
      (repeat' (first | exact trivial | exact fun h => h | refine And.intro ?_ ?_ | (intro hb; try simp at hb) | omega | exact rfl | exact Nat.le_refl _ | (show _ + 1 ≤ 4294967296; omega) | (dsimp only; omega) | (show (_ : Int) ≤ (_ : Int); omega) | (show _ < List.length _; simp only [List.length_set, List.length_append, List.length_take]; omega) | (show wantB _ _ = true; simp <;> omega) | (show (_ : Bool) = _; simp_all; done) | (exfalso; omega) | refine aRegion_auto (by decide +kernel) ?_ | fail))
      refine exEff (v0 := .unk) (A0 := rtA bm clk ks (Uf.cp f x)) ?_ ?_
      · refine aact_store (tok := 2) (off := 0) (bm := bm) (clock := clk) (ks := ks.map fun e => (e.1, kv1 (e.2 : Int))) (vs := ks.map fun e => .fz int (g e.2 : Int)) (kv := kv1 (x : Int)) ?_ ?_ Tryz.underlying126 keyed1 (fun c v h => ?_) (key1_ok (by omega)) (ofO_key hk) (fun hno => absurd hno hall) (fun j y hj hy => ?_)
        · rfl
        · rfl
        · exact rel_kv1 c v h
        obtain ⟨e, he, hee⟩ := of_at hj hy
        have h1 := of_set hk (f := g) he (Uf.R f x)
        rw [hee] at h1
        have h2 : (fun e' : Nat × Nat => AV.fz int ((if e'.2 = x then Uf.R f x else g e'.2 : Nat) : Int)) = fun e' => AV.fz int (Uf.cp f x e'.2 : Int) := by
          funext e'
          rw [← hst]
        rw [h2] at h1
        refine And.intro rfl ?_
        exact congrArg (fun z => [AO.box [.ptr 2 0], .box [.fn 62 [.ptr 0 0, .ptr 1 0]], .mapo (.map bm clk (ks.map fun e => (e.1, kv1 (e.2 : Int)))) z]) h1
      (repeat' (first | exact trivial | exact fun h => h | refine And.intro ?_ ?_ | (intro hb; try simp at hb) | omega | exact rfl | exact Nat.le_refl _ | (show _ + 1 ≤ 4294967296; omega) | (dsimp only; omega) | (show (_ : Int) ≤ (_ : Int); omega) | (show _ < List.length _; simp only [List.length_set, List.length_append, List.length_take]; omega) | (show wantB _ _ = true; simp <;> omega) | (show (_ : Bool) = _; simp_all; done) | (exfalso; omega) | refine aRegion_auto (by decide +kernel) ?_ | fail))
      refine aact_lookup (tok := 2) (off := 0) (bm := bm) (clock := clk) (ks := ks.map fun e => (e.1, kv1 (e.2 : Int))) (vs := ks.map fun e => .fz int (Uf.cp f x e.2 : Int)) (kv := kv1 (x : Int)) ?_ ?_ Tryz.underlying126 keyed1 (fun c v h => ?_) (key1_ok (by omega)) (ofO_key hk) zero_int (fun hno => absurd hno hall) (fun j y av hj hy hav => ?_)
      · rfl
      · rfl
      · exact rel_kv1 c v h
      obtain ⟨e, he, hee⟩ := of_at hj hy
      have hav : av = .fz int (Uf.cp f x x : Int) := by
        rw [List.getElem?_map, he] at hav
        have hav : av = .fz int (Uf.cp f x e.2 : Int) := by simpa using hav.symm
        rw [hav, hee]
      subst hav
      (repeat' (first | exact trivial | exact fun h => h | refine And.intro ?_ ?_ | (intro hb; try simp at hb) | omega | exact rfl | exact Nat.le_refl _ | (show _ + 1 ≤ 4294967296; omega) | (dsimp only; omega) | (show (_ : Int) ≤ (_ : Int); omega) | (show _ < List.length _; simp only [List.length_set, List.length_append, List.length_take]; omega) | (show wantB _ _ = true; simp <;> omega) | (show (_ : Bool) = _; simp_all; done) | (exfalso; omega) | refine aRegion_auto (by decide +kernel) ?_ | fail))
      refine ⟨_, _, REnt.refl _ _ _, ?_⟩
      rw [Uf.cp_self]
      exact hK
end Go.Proofs.YtgjjooophigkoaaGreatDoor
/-
  The memory seen under other names where its end is not written out.
-/
namespace Go.Ab
open Go
mutual
theorem map_fix {f : Nat → Nat} {n : Nat} (hf : ∀ i, i < n → f i = i) : ∀ a : AV, a.okB n = true → a.map f = a
  | .fz t x, _ => rfl
  | .fptr t x, _ => rfl
  | .ref t o l, h => by unfold AV.okB at h; unfold AV.map; rw [hf t (by simpa using h)]
  | .nilSl, _ => rfl
  | .ptr t o, h => by unfold AV.okB at h; unfold AV.map; rw [hf t (by simpa using h)]
  | .elt t i o, h => by unfold AV.okB at h; unfold AV.map; rw [hf t (by simpa using h)]
  | .glob g, _ => rfl
  | .agg l, h => by unfold AV.okB at h; unfold AV.map; rw [mapL_fix hf l h]
  | .tup l, h => by unfold AV.okB at h; unfold AV.map; rw [mapL_fix hf l h]
  | .fn g l, h => by unfold AV.okB at h; unfold AV.map; rw [mapL_fix hf l h]
  | .ifc t a, h => by unfold AV.okB at h; unfold AV.map; rw [map_fix hf a h]
  | .opt g a, h => by unfold AV.okB at h; unfold AV.map; rw [map_fix hf a h]
  | .unk, _ => rfl
theorem mapL_fix {f : Nat → Nat} {n : Nat} (hf : ∀ i, i < n → f i = i) : ∀ l : List AV, okLB n l = true → mapL f l = l
  | [], _ => rfl
  | a :: l, h => by
    unfold okLB at h
    rw [Bool.and_eq_true] at h
    unfold mapL
    rw [map_fix hf a h.1, mapL_fix hf l h.2]
end
mutual
theorem okB_up {n m : Nat} (h : n ≤ m) : ∀ a : AV, a.okB n = true → a.okB m = true
  | .fz t x, _ => rfl
  | .fptr t x, _ => rfl
  | .ref t o l, k => by unfold AV.okB at *; have : t < n := by simpa using k
                        simpa using (by omega : t < m)
  | .nilSl, _ => rfl
  | .ptr t o, k => by unfold AV.okB at *; have : t < n := by simpa using k
                      simpa using (by omega : t < m)
  | .elt t i o, k => by unfold AV.okB at *; have : t < n := by simpa using k
                        simpa using (by omega : t < m)
  | .glob g, _ => rfl
  | .agg l, k => by unfold AV.okB at *; exact okLB_up h l k
  | .tup l, k => by unfold AV.okB at *; exact okLB_up h l k
  | .fn g l, k => by unfold AV.okB at *; exact okLB_up h l k
  | .ifc t a, k => by unfold AV.okB at *; exact okB_up h a k
  | .opt g a, k => by unfold AV.okB at *; exact okB_up h a k
  | .unk, _ => rfl
theorem okLB_up {n m : Nat} (h : n ≤ m) : ∀ l : List AV, okLB n l = true → okLB m l = true
  | [], _ => rfl
  | a :: l, k => by
    unfold okLB at *
    rw [Bool.and_eq_true] at *
    exact ⟨okB_up h a k.1, okLB_up h l k.2⟩
end
theorem mapO_fix {f : Nat → Nat} {n : Nat} (hf : ∀ i, i < n → f i = i) {o : AO} (h : okLB n o.vals = true) : mapO f o = o := by
  cases o with
  | row e xs => rfl
  | box vs => exact congrArg AO.box (mapL_fix hf vs h)
  | dead => rfl
  | room => rfl
  | mapo i vs => exact congrArg (AO.mapo i) (mapL_fix hf vs h)
theorem renA_intro {p : List Nat} {A : List AO} {m : Nat} : ∀ (A' : List AO) (j0 : Nat), (∀ (j : Nat) o, A'[j]? = some o → o ≠ .dead → A[nameOf p (j0 + j)]? = some (mapO (nameOf p) o) ∧ okLB m o.vals = true) → RenA p A m j0 A'
  | [], _, _ => trivial
  | o :: A', j0, h => by
    have next : RenA p A m (j0 + 1) A' := renA_intro A' (j0 + 1) fun j o' hj hd => by
      have := h (j + 1) o' (by simpa using hj) hd
      rwa [show j0 + (j + 1) = j0 + 1 + j by omega] at this
    have h0 := h 0 o rfl
    cases o with
    | dead => exact next
    | room => exact ⟨(h0 (by simp)).1, next⟩
    | row e xs => exact ⟨(h0 (by simp)).1, next⟩
    | box vs => exact ⟨(h0 (by simp)).1, (h0 (by simp)).2, next⟩
    | mapo i vs => exact ⟨(h0 (by simp)).1, (h0 (by simp)).2, next⟩
theorem viewB_intro {p : List Nat} {m : Nat} {A A' : List AO} (hm : m ≤ A'.length) (hinj : ∀ j k, j < A'.length → k < A'.length → nameOf p j = nameOf p k → j = k)
    (hfix : ∀ j, j < A'.length → nameOf p j = j ∨ (roomB A j = true ∧ roomB A' j = false)) : viewB p m A A' = true := by
  unfold viewB rmB
  simp only [Bool.and_eq_true, List.all_eq_true, List.mem_range]
  refine ⟨⟨Nat.ble_eq_true_of_le hm, fun j hj => ?_⟩, fun j hj => ?_⟩
  · rcases hfix j hj with h | h
    · simp [h]
    · simp [h.2]
  · rw [Bool.or_eq_true]
    right
    rw [Bool.and_eq_true, List.all_eq_true]
    refine ⟨?_, fun k hk => ?_⟩
    · rcases hfix j hj with h | h
      · simp [h]
      · simp [h.1]
    · rw [List.mem_range] at hk
      by_cases h : nameOf p j = nameOf p k
      · have := hinj j k hj hk h
        subst this; simp
      · have : Nat.beq (nameOf p j) (nameOf p k) = false := by
          rw [← Bool.not_eq_true]; intro e; exact h (Nat.eq_of_beq_eq_true e)
        simp [this]
theorem nameOf_range {n i : Nat} (h : i < n) : nameOf (List.range n) i = i := by
  unfold nameOf; rw [List.getD, List.getElem?_range h]; rfl
/-- all that the objects hold leads to objects below n -/
def OkA (n : Nat) (A : List AO) : Prop := ∀ o ∈ A, okLB n o.vals = true
/-- as it was -/
theorem view_id {m : Nat} {v : AV} {A : List AO} (hm : m ≤ A.length) (hv : v.okB A.length = true) (hA : OkA A.length A) : View m v A v A := by
  have hf : ∀ i, i < A.length → nameOf (List.range A.length) i = i := fun i hi => nameOf_range hi
  refine ⟨List.range A.length, viewB_intro hm (fun j k hj hk h => by rwa [hf j hj, hf k hk] at h) (fun j hj => .inl (hf j hj)), renA_intro A 0 fun j o hj hd => ?_, (map_fix hf v hv).symm, hv⟩
  have hok := hA o (List.mem_of_getElem? hj)
  rw [Nat.zero_add, hf j (get_lt hj), mapO_fix hf hok]
  exact ⟨hj, hok⟩
/-- a new row takes the last room -/
theorem view_room {m : Nat} {B : List AO} {e : Ty} {xs : List e.den} {o l : Nat} (hm : m ≤ B.length + 1) (hB : OkA B.length B) :
    View m (.ref (B.length + 1) o l) (B ++ [.room, .row e xs]) (.ref B.length o l) (B ++ [.row e xs]) := by
  have hlen : (B ++ [AO.row e xs]).length = B.length + 1 := by simp
  have h1 : ∀ i, i < B.length → nameOf (List.range B.length ++ [B.length + 1]) i = i := fun i hi => by
    unfold nameOf
    rw [List.getD, List.getElem?_append_left (by simpa using hi), List.getElem?_range hi]; rfl
  have h2 : nameOf (List.range B.length ++ [B.length + 1]) B.length = B.length + 1 := by
    unfold nameOf
    rw [List.getD, List.getElem?_append_right (by simp)]; simp
  refine ⟨List.range B.length ++ [B.length + 1], viewB_intro (by rw [hlen]; exact hm) (fun j k hj hk h => ?_) (fun j hj => ?_), renA_intro _ 0 fun j o' hj hd => ?_, ?_, ?_⟩
  · rw [hlen] at hj hk
    by_cases hjb : j < B.length
    · rw [h1 j hjb] at h
      by_cases hkb : k < B.length
      · rwa [h1 k hkb] at h
      · obtain rfl : k = B.length := by omega
        rw [h2] at h; omega
    · obtain rfl : j = B.length := by omega
      rw [h2] at h
      by_cases hkb : k < B.length
      · rw [h1 k hkb] at h; omega
      · omega
  · rw [hlen] at hj
    by_cases hjb : j < B.length
    · exact .inl (h1 j hjb)
    · obtain rfl : j = B.length := by omega
      refine .inr ⟨?_, ?_⟩
      · unfold roomB; rw [List.getElem?_append_right (Nat.le_refl _)]; simp
      · unfold roomB; rw [List.getElem?_append_right (Nat.le_refl _)]; simp
  · rw [Nat.zero_add]
    have hjl := get_lt hj
    rw [hlen] at hjl
    by_cases hjb : j < B.length
    · rw [List.getElem?_append_left hjb] at hj
      have hok := hB o' (List.mem_of_getElem? hj)
      rw [h1 j hjb, mapO_fix h1 hok, List.getElem?_append_left hjb]
      exact ⟨hj, okLB_up (by rw [hlen]; omega) _ hok⟩
    · obtain rfl : j = B.length := by omega
      rw [List.getElem?_append_right (Nat.le_refl _)] at hj
      simp only [Nat.sub_self, List.getElem?_cons_zero, Option.some.injEq] at hj
      subst hj
      rw [h2, List.getElem?_append_right (by omega)]
      exact ⟨by simp [mapO], rfl⟩
  · unfold AV.map; rw [h2]
  · unfold AV.okB; rw [hlen]; simp
theorem force_of (v : AV) (A : List AO) (K : AV → List AO → Prop) (h : K v A) : forceV v fun v' => forceA A fun A' => K v' A' := by
  rw [forceV_eq, forceA_eq]; exact h
/-! ### append, the slice's row found by a fact -/
theorem aSrc_ref {e : Ty} {A : List AO} {tok off len : Nat} {ys : List e.den} (h : A[tok]? = some (.row e ys)) : aSrc e A (.ref tok off len) = (some (off + len ≤ List.length ys), some ((List.drop off ys).take len)) := by
  unfold aSrc
  simp only [h]
  simp
theorem aAppend_ref {D : Tab} {A : List AO} {t0 t1 el : TypeId} {e : Ty} {tok len : Nat} {y : AV} {C : Option Prop} {xs ys : List e.den} (h1 : telem D t0 = some el) (h2 : tyOf D 8 el = some e) (h3 : (elOk D el e && notInt D t1) = true)
    (hy : aSrc e A y = (C, some ys)) (hx : A[tok]? = some (.row e xs)) : aAppend D A t0 t1 (.ref tok 0 len) y = ⟨andC C (some (len ≤ List.length xs ∧ len + List.length ys ≤ 4294967296)), .ref A.length 0 (len + List.length ys), A.set tok .dead ++ [.row e (List.take len xs ++ ys)]⟩ := by
  unfold aAppend
  simp only [h1, h2, h3, hy, hx]
  simp
theorem aAppend_nil {D : Tab} {A : List AO} {t0 t1 el : TypeId} {e : Ty} {y : AV} {C : Option Prop} {ys : List e.den} (h1 : telem D t0 = some el) (h2 : tyOf D 8 el = some e) (h3 : (elOk D el e && notInt D t1) = true)
    (hy : aSrc e A y = (C, some ys)) : aAppend D A t0 t1 .nilSl y = ⟨andC C (some (List.length ys ≤ 4294967296)), .ref A.length 0 (List.length ys), A ++ [.row e ys]⟩ := by
  unfold aAppend
  simp only [h1, h2, h3, hy]
theorem run_app {D : Tab} {A : List AO} {t0 t1 : TypeId} {x y : AV} {e : ER} {K : AV → List AO → Prop} (h : aAppend D A t0 t1 x y = e) (hk : runE e K) : runE (aAppend D A t0 t1 x y) K := h ▸ hk
theorem conv1_dat {A A' : List AO} {t : Ty} {v : AV} {C : Option Prop} {x : t.den} (hb : bEq (aggB v) t.isAgg = true) (h : toD A t v = (C, some x, A')) : conv1 A (.dat t) v = (C, some (.fz t x), A') := by
  unfold conv1
  simp only [hb, h]
/-- a slice whose row is found by a fact, turned to data -/
theorem conv1_ref {A : List AO} {e : Ty} {tok off len : Nat} {xs : List e.den} (h : A[tok]? = some (.row e xs)) :
    conv1 A (.dat (.list e)) (.ref tok off len) = (andC (some (off + len ≤ List.length xs)) none, some (.fz (.list e) ((List.drop off xs).take len)), A.set tok .dead) := by
  have hg : goodC A (acells (.ref tok off len)) = true := by
    show ([AV.ref tok off len].all fun a => a.one && a.sure A) = true
    simp [AV.one, AV.sure, h]
  have hf : frz A (acells (.ref tok off len)) = (andC (some (off + len ≤ List.length xs)) none, [.fz (.list e) ((List.drop off xs).take len)], A.set tok .dead) := by
    show frz A [AV.ref tok off len] = _
    unfold frz
    simp only [h]
    unfold frz
    rfl
  have ht : toD A (.list e) (.ref tok off len) = (andC (some (off + len ≤ List.length xs)) none, some ((List.drop off xs).take len), A.set tok .dead) := by
    unfold toD
    rw [hg]
    show (match frz A (acells (.ref tok off len)) with | (C, l, A') => (C, (Ty.list e).ofC l, A')) = _
    rw [hf]
    simp [Ty.ofC, ofList]
  exact conv1_dat rfl ht
theorem aact_dat {P : Program} {G : List (Nat × Value)} {A : List AO} {T : List (Nat × AV)} {op : Op} {K : AV → List AO → Prop} (tok : Nat) (e : Ty) (xs : List e.den) (len : Nat)
    (h : AAct P G A T op fun r A' => r = .ref tok 0 len ∧ A'[tok]? = some (.row e xs) ∧ len ≤ List.length xs ∧ K (.fz (.list e) (List.take len xs)) (A'.set tok .dead)) : AAct P G A T op K :=
  ⟨fun c a o H hA hG ho hT => by
    obtain ⟨c1, nx, v, r, h1, h2, h3, h4, h5, rfl, h6, h7, h8⟩ := h.run c a o H hA hG ho hT
    have hc := conv1_ref (off := 0) (len := len) h6
    obtain ⟨c2, k1, k2, k3, k4, k5⟩ := conv1_sound (cv := .dat (.list e)) (a' := .fz (.list e) (List.take len xs)) h4 h5 (by rw [hc]; show 0 + len ≤ _; omega) (by rw [hc]; simp)
    rw [hc] at k4
    refine ⟨c2, nx, v, .fz (.list e) (List.take len xs), by rw [k1.w]; exact h1, h2, h3.trans k2, k3, k5, by rw [k4]; exact h8⟩⟩
theorem rent_ref {n0 : Nat} {A : List AO} {e : Ty} {tok len : Nat} {xs : List e.den} (v : AV) (h : A[tok]? = some (.row e xs)) (hl : len ≤ List.length xs) : REnt n0 (.tup [.ref tok 0 len, v]) A (.tup [.fz (.list e) (List.take len xs), v]) (A.set tok .dead) := by
  refine REnt.conv [.dat (.list e), .keep] (some (0 + len ≤ List.length xs)) ?_ (by show 0 + len ≤ _; omega)
  unfold conv
  rw [conv1_ref (off := 0) (len := len) h]
  rfl
/-- an effect told by an equation, in a region without draws -/
theorem aOps_eff {P : Program} {D : Tab} {G : List (Nat × Value)} {N : Nat} {L : List Oper} {o : Oper} {os : List Oper} {T : List (Nat × AV)} {A : List AO} {Q : List (Nat × AV) → List AO → Prop} {d : Nat} {e : ER}
    (hd : o.dst = some d) (hN : Nat.blt d N = true) (hg : o.guard = none) (hk : aKind D A T o.op = .eff e) (h : runE e fun v A' => aOps P D G N L os ((d, v) :: T) A' Q) : aOps P D G N L (o :: os) T A Q := by
  unfold aOps
  rw [hd]
  simp only [hN]
  unfold agRun
  rw [hg]
  simp only
  unfold aRun
  rw [hk]
  exact h
theorem run_bs {D : Tab} {A : List AO} {t : TypeId} {n : Nat} {ps : List (Nat × AV)} {e : ER} {K : AV → List AO → Prop} (h : aBuildSlice D A t n ps = e) (hk : runE e K) : runE (aBuildSlice D A t n ps) K := h ▸ hk
theorem runE_none {v : AV} {A : List AO} {K : AV → List AO → Prop} (hk : K v A) : runE ⟨none, v, A⟩ K := force_of v A K hk
theorem runE_some {C : Prop} {v : AV} {A : List AO} {K : AV → List AO → Prop} (h : C) (hk : K v A) : runE ⟨some C, v, A⟩ K := ⟨h, force_of v A K hk⟩
end Go.Ab
/-
  Groups of what belongs together, one by one: which row each one has.
-/
namespace Go.Proofs.YtgjjooophigkoaaGreatDoor
open Go Go.Ab
namespace Gr
/-- those of one root -/
def mem (R : Nat → Nat) (r : Nat) (pre : List Nat) : List Nat := pre.filter fun z => decide (R z = r)
theorem mem_snoc (R : Nat → Nat) (r : Nat) (pre : List Nat) (k : Nat) : mem R r (pre ++ [k]) = if R k = r then mem R r pre ++ [k] else mem R r pre := by
  unfold mem
  rw [List.filter_append]
  by_cases h : R k = r
  · rw [if_pos h]; simp [h]
  · rw [if_neg h]; simp [h]
/-- stamp, root, place of the row -/
abbrev Gp := Nat × Nat × Nat
structure GI (R : Nat → Nat) (pre : List Nat) (G : List Gp) (T : List AO) : Prop where
  nd : (G.map (·.2.1)).Nodup
  tk : (G.map (·.2.2)).Nodup
  row : ∀ e ∈ G, T[e.2.2]? = some (.row int (natL (mem R e.2.1 pre)))
  all : ∀ r, r ∈ G.map (·.2.1) ↔ ∃ z, z ∈ pre ∧ R z = r
  flat : ∀ o ∈ T, o.vals = []
theorem GI.start (R : Nat → Nat) : GI R [] [] [] := ⟨List.nodup_nil, List.nodup_nil, fun e he => (by cases he), fun r => by simp, fun o ho => (by cases ho)⟩
variable {R : Nat → Nat} {pre : List Nat} {G : List Gp} {T : List AO}
theorem GI.lt (h : GI R pre G T) {e : Gp} (he : e ∈ G) : e.2.2 < T.length := get_lt (h.row e he)
theorem GI.new (h : GI R pre G T) {k : Nat} (hno : R k ∉ G.map (·.2.1)) (clk : Nat) {o : AO} (ho : o.vals = []) : GI R (pre ++ [k]) (G ++ [(clk, R k, T.length + 1)]) (T ++ [o, .row int (natL [k])]) := by
  have hnil : mem R (R k) pre = [] := by
    unfold mem
    rw [List.filter_eq_nil_iff]
    intro z hz
    simp only [decide_eq_true_eq]
    exact fun e => hno ((h.all (R k)).2 ⟨z, hz, e⟩)
  refine ⟨?_, ?_, fun e he => ?_, fun r => ?_, fun o' ho' => ?_⟩
  · rw [List.map_append, List.nodup_append]
    refine ⟨h.nd, by simp, fun a ha c hc => ?_⟩
    simp at hc; subst hc
    exact fun e => hno (e ▸ ha)
  · rw [List.map_append, List.nodup_append]
    refine ⟨h.tk, by simp, fun a ha c hc => ?_⟩
    simp at hc; subst hc
    obtain ⟨e, he, rfl⟩ := List.mem_map.1 ha
    have := h.lt he
    omega
  · rcases List.mem_append.1 he with h1 | h1
    · have hne : R k ≠ e.2.1 := fun x => hno (x ▸ List.mem_map.2 ⟨e, h1, rfl⟩)
      rw [List.getElem?_append_left (h.lt h1), h.row e h1, mem_snoc, if_neg hne]
    · simp at h1; subst h1
      show (T ++ [o, .row int (natL [k])])[T.length + 1]? = some (.row int (natL (mem R (R k) (pre ++ [k]))))
      rw [mem_snoc, if_pos rfl, hnil, List.getElem?_append_right (by omega)]
      simp
  · rw [List.map_append, List.mem_append, h.all]
    simp only [List.map_cons, List.map_nil, List.mem_singleton, List.mem_append]
    constructor
    · rintro (⟨z, h1, h2⟩ | h1)
      · exact ⟨z, .inl h1, h2⟩
      · exact ⟨k, .inr rfl, h1.symm⟩
    · rintro ⟨z, h1 | h1, h2⟩
      · exact .inl ⟨z, h1, h2⟩
      · subst h1; exact .inr h2.symm
  · rcases List.mem_append.1 ho' with h1 | h1
    · exact h.flat o' h1
    · simp at h1
      rcases h1 with rfl | rfl
      · exact ho
      · rfl
theorem GI.more (h : GI R pre G T) {k q : Nat} {e : Gp} (hq : G[q]? = some e) (he : e.2.1 = R k) {o : AO} (ho : o.vals = []) :
    GI R (pre ++ [k]) (G.set q (e.1, e.2.1, T.length + 1)) (T.set e.2.2 .dead ++ [o, .row int (natL (mem R (R k) pre ++ [k]))]) := by
  have hmem := List.mem_of_getElem? hq
  have hkeys : (G.set q (e.1, e.2.1, T.length + 1)).map (·.2.1) = G.map (·.2.1) := by
    apply List.ext_getElem?
    intro m
    simp only [List.getElem?_map, List.getElem?_set]
    by_cases hqm : q = m
    · subst hqm; rw [if_pos rfl, if_pos (get_lt hq), hq]; rfl
    · rw [if_neg hqm]
  have others : ∀ e' ∈ G.set q (e.1, e.2.1, T.length + 1), e' = (e.1, e.2.1, T.length + 1) ∨ (e' ∈ G ∧ e'.2.1 ≠ e.2.1 ∧ e'.2.2 ≠ e.2.2) := fun e' he' => by
    obtain ⟨m, hm⟩ := List.getElem?_of_mem he'
    rw [List.getElem?_set] at hm
    by_cases hqm : q = m
    · rw [if_pos hqm, if_pos (get_lt hq)] at hm
      simp at hm; exact .inl hm.symm
    · rw [if_neg hqm] at hm
      refine .inr ⟨List.mem_of_getElem? hm, fun hk => ?_, fun hk => ?_⟩
      · have h1 : (G.map (·.2.1))[q]? = (G.map (·.2.1))[m]? := by rw [List.getElem?_map, List.getElem?_map, hq, hm]; simp [hk]
        exact hqm ((List.getElem?_inj (by simpa using get_lt hq) h.nd).1 h1)
      · have h1 : (G.map (·.2.2))[q]? = (G.map (·.2.2))[m]? := by rw [List.getElem?_map, List.getElem?_map, hq, hm]; simp [hk]
        exact hqm ((List.getElem?_inj (by simpa using get_lt hq) h.tk).1 h1)
  refine ⟨by rw [hkeys]; exact h.nd, ?_, fun e' he' => ?_, fun r => ?_, fun o' ho' => ?_⟩
  · have hlt : ∀ e' ∈ G, e'.2.2 < T.length := fun e' he' => h.lt he'
    unfold List.Nodup
    rw [List.pairwise_iff_getElem]
    intro i j hi hj hij
    simp only [List.length_map, List.length_set] at hi hj
    simp only [List.getElem_map, List.getElem_set]
    have hi2 := hlt G[i] (List.getElem_mem _)
    have hj2 := hlt G[j] (List.getElem_mem _)
    have hne : G[i].2.2 ≠ G[j].2.2 := by
      have := List.pairwise_iff_getElem.1 h.tk i j (by simpa using hi) (by simpa using hj) hij
      simpa using this
    split <;> split
    · omega
    · simp only; omega
    · simp only; omega
    · exact hne
  · rcases others e' he' with rfl | ⟨h1, h2, h3⟩
    · simp only
      rw [mem_snoc, if_pos he.symm, he, List.getElem?_append_right (by rw [List.length_set]; omega), List.length_set]
      simp
    · have hl := h.lt h1
      rw [List.getElem?_append_left (by rw [List.length_set]; exact hl), List.getElem?_set_ne (Ne.symm h3), h.row e' h1, mem_snoc, if_neg (fun x => h2 (by rw [he, x]))]
  · rw [hkeys, h.all]
    simp only [List.mem_append, List.mem_singleton]
    constructor
    · rintro ⟨z, h1, h2⟩; exact ⟨z, .inl h1, h2⟩
    · rintro ⟨z, h1 | h1, h2⟩
      · exact ⟨z, h1, h2⟩
      · subst h1
        exact (h.all r).1 (h2 ▸ he ▸ List.mem_map.2 ⟨e, hmem, rfl⟩)
  · rcases List.mem_append.1 ho' with h1 | h1
    · rcases List.mem_or_eq_of_mem_set h1 with h2 | h2
      · exact h.flat o' h2
      · rw [h2]; rfl
    · simp at h1
      rcases h1 with rfl | rfl
      · exact ho
      · rfl
end Gr
end Go.Proofs.YtgjjooophigkoaaGreatDoor
/-
  What belongs together: the walk.
-/
namespace Go.Proofs.YtgjjooophigkoaaGreatDoor
open Go Go.Ab Ps
set_option maxRecDepth 100000
theorem of_same (p : Nat → Nat) (bm clk : Nat) (ks : List (Nat × Nat)) (f : Nat → Nat) : mapO p (ofO bm clk ks f) = ofO bm clk ks f := by
  show AO.mapo _ (mapL p _) = AO.mapo _ _
  rw [mapL_fz (α := Nat × Nat) p int (fun e => (f e.2 : Int))]
theorem of_new (bm clk : Nat) (ks : List (Nat × Nat)) (k : Nat) {v : Int} (hv : v = (k : Int)) :
    AO.mapo (.map bm (clk + 1) ((ks.map fun e => (e.1, kv1 (e.2 : Int))) ++ [(clk, kv1 (k : Int))])) ((ks.map fun e => AV.fz int ((id e.2 : Nat) : Int)) ++ [.fz int v]) = ofO bm (clk + 1) (ks ++ [(clk, k)]) id := by
  rw [hv]
  unfold ofO
  rw [List.map_append, List.map_append]; rfl
theorem of_keep {ks : List (Nat × Nat)} {j k : Nat} {e : Nat × Nat} (bm clk : Nat) (he : ks[j]? = some e) (hk : e.2 = k) {v : Int} (hv : v = (k : Int)) :
    AO.mapo (.map bm clk (ks.map fun e => (e.1, kv1 (e.2 : Int)))) ((ks.map fun e => AV.fz int ((id e.2 : Nat) : Int)).set j (.fz int v)) = ofO bm clk ks id := by
  rw [hv]
  unfold ofO
  refine congrArg _ ?_
  apply List.ext_getElem?
  intro m
  rw [List.getElem?_set, List.length_map]
  by_cases hjm : j = m
  · subst hjm
    rw [if_pos rfl, if_pos (get_lt he), List.getElem?_map, he, ← hk]; rfl
  · rw [if_neg hjm]
/-- the keys when so many cells have come -/
structure KB (bN : Nat → Nat) (j clk : Nat) (ks : List (Nat × Nat)) : Prop where
  nd : (ks.map (·.2)).Nodup
  mem : ∀ y, y ∈ ks.map (·.2) ↔ ∃ i, i < j ∧ bN i = y
  st : (ks.map (·.1)).Nodup
  lt : ∀ e ∈ ks, e.1 < clk
  len : ks.length ≤ j
theorem KB.new {bN : Nat → Nat} {j clk : Nat} {ks : List (Nat × Nat)} (h : KB bN j clk ks) (hn : ∀ e ∈ ks, e.2 ≠ bN j) : KB bN (j + 1) (clk + 1) (ks ++ [(clk, bN j)]) := by
  have hm : ∀ y, y ∈ (ks ++ [(clk, bN j)]).map (·.2) ↔ y ∈ ks.map (·.2) ∨ y = bN j := fun y => by simp
  refine ⟨?_, fun y => ?_, ?_, fun e he => ?_, ?_⟩
  · rw [List.map_append, List.nodup_append]
    refine ⟨h.nd, by simp, fun a ha c hc => ?_⟩
    simp at hc; subst hc
    obtain ⟨e, he, rfl⟩ := List.mem_map.1 ha
    exact hn e he
  · rw [hm, h.mem]
    constructor
    · rintro (⟨i, h1, h2⟩ | h1)
      · exact ⟨i, by omega, h2⟩
      · exact ⟨j, by omega, h1.symm⟩
    · rintro ⟨i, h1, h2⟩
      by_cases hij : i = j
      · subst hij; exact .inr h2.symm
      · exact .inl ⟨i, by omega, h2⟩
  · rw [List.map_append, List.nodup_append]
    refine ⟨h.st, by simp, fun a ha c hc => ?_⟩
    simp at hc; subst hc
    obtain ⟨e, he, rfl⟩ := List.mem_map.1 ha
    have := h.lt e he
    omega
  · rcases List.mem_append.1 he with h1 | h1
    · have := h.lt e h1; omega
    · simp at h1; subst h1; exact Nat.lt_succ_self _
  · rw [List.length_append, List.length_singleton]
    have := h.len
    omega
theorem KB.keep {bN : Nat → Nat} {j clk : Nat} {ks : List (Nat × Nat)} (h : KB bN j clk ks) (hn : bN j ∈ ks.map (·.2)) : KB bN (j + 1) clk ks := by
  refine ⟨h.nd, fun y => ?_, h.st, h.lt, by have := h.len; omega⟩
  rw [h.mem]
  constructor
  · rintro ⟨i, h1, h2⟩; exact ⟨i, by omega, h2⟩
  · rintro ⟨i, h1, h2⟩
    by_cases hij : i = j
    · subst hij; exact (h.mem y).1 (by rw [← h2]; exact hn)
    · exact ⟨i, by omega, h2⟩
/-- going through the keys -/
structure RK (ks es : List (Nat × Nat)) (seen out : List Nat) : Prop where
  sub : ∀ e ∈ es, e ∈ ks
  nd : es.Nodup
  seen : seen = es.map (·.1)
  out : out = es.map (·.2)
theorem RK.start (ks : List (Nat × Nat)) : RK ks [] [] [] := ⟨fun e h => by simp at h, List.nodup_nil, rfl, rfl⟩
theorem RK.next {ks es : List (Nat × Nat)} {seen out : List Nat} (h : RK ks es seen out) {e : Nat × Nat} (he : e ∈ ks) (hn : e.1 ∉ seen) : RK ks (es ++ [e]) (seen ++ [e.1]) (out ++ [e.2]) := by
  refine ⟨fun e' he' => ?_, ?_, by rw [h.seen]; simp, by rw [h.out]; simp⟩
  · rcases List.mem_append.1 he' with h1 | h1
    · exact h.sub e' h1
    · simp at h1; subst h1; exact he
  · rw [List.nodup_append]
    refine ⟨h.nd, by simp, fun x hx y hy => ?_⟩
    simp at hy; subst hy
    rintro rfl
    exact hn (by rw [h.seen]; exact List.mem_map.2 ⟨x, hx, rfl⟩)
theorem len_subK : ∀ (l m : List (Nat × Nat)), l.Nodup → (∀ e ∈ l, e ∈ m) → l.length ≤ m.length
  | [], _, _, _ => Nat.zero_le _
  | e :: l, m, hn, hs => by
    obtain ⟨h1, h2⟩ := List.nodup_cons.1 hn
    have hm := hs e (List.mem_cons_self ..)
    have := len_subK l (m.erase e) h2 fun x hx => (List.mem_erase_of_ne (fun h : x = e => h1 (by rw [← h]; exact hx))).2 (hs x (List.mem_cons_of_mem _ hx))
    rw [List.length_erase_of_mem hm] at this
    have h3 := List.length_pos_of_mem hm
    simp only [List.length_cons]; omega
theorem RK.le {ks es : List (Nat × Nat)} {seen out : List Nat} (h : RK ks es seen out) : out.length ≤ ks.length := by
  rw [h.out, List.length_map]
  exact len_subK es ks h.nd h.sub
theorem stamp_inj {ks : List (Nat × Nat)} (h : (ks.map (·.1)).Nodup) {e e' : Nat × Nat} (he : e ∈ ks) (he' : e' ∈ ks) (hk : e.1 = e'.1) : e = e' := by
  obtain ⟨i, hi, rfl⟩ := List.getElem_of_mem he
  obtain ⟨j, hj, rfl⟩ := List.getElem_of_mem he'
  have : i = j := (List.getElem_inj (h₀ := by simpa using hi) (h₁ := by simpa using hj) h).1 (by simpa using hk)
  subst this; rfl
theorem RK.done {ks es : List (Nat × Nat)} {seen out : List Nat} (h : RK ks es seen out) (hs : (ks.map (·.1)).Nodup) (hall : ∀ e ∈ ks, e.1 ∈ seen) : out.Perm (ks.map (·.2)) := by
  rw [h.out]
  refine List.Perm.map _ ((List.perm_ext_iff_of_nodup h.nd ?_).2 fun e => ⟨h.sub e, fun he => ?_⟩)
  · unfold List.Nodup at hs ⊢
    rw [List.pairwise_map] at hs
    exact hs.imp fun hab e => hab (by rw [e])
  · have := hall e he
    rw [h.seen] at this
    obtain ⟨e', he', hk⟩ := List.mem_map.1 this
    have : e' = e := stamp_inj hs (h.sub e' he') he hk
    exact this ▸ he'
/-- numbers put in order -/
theorem sorted_nat {xs : List Int} {out : List Nat} (hp : xs.Perm (natL out)) (hs : xs.Pairwise (· ≤ ·)) (hn : out.Nodup) : ∃ fst : List Nat, xs = natL fst ∧ fst.Perm out ∧ fst.Pairwise (· < ·) := by
  have hx : xs = natL (xs.map Int.toNat) := by
    unfold natL
    rw [List.map_map]
    refine (List.map_id xs).symm.trans (List.map_congr_left fun x hx => ?_)
    have := hp.mem_iff.1 hx
    unfold natL at this
    obtain ⟨z, _, rfl⟩ := List.mem_map.1 this
    simp
  have hperm : (xs.map Int.toNat).Perm out := by
    have := hp.map Int.toNat
    unfold natL at this
    rw [List.map_map] at this
    have e : (Int.toNat ∘ fun n : Nat => (n : Int)) = id := by funext z; simp
    rw [e, List.map_id] at this
    exact this
  refine ⟨_, hx, hperm, ?_⟩
  have h1 : (xs.map Int.toNat).Pairwise (· ≠ ·) := (hperm.nodup_iff.2 hn)
  have h2 : (xs.map Int.toNat).Pairwise (· ≤ ·) := by
    rw [List.pairwise_map]
    exact hs.imp fun {a c} h => by omega
  exact (h1.and h2).imp fun {a c} h => by omega
/-- what the passes put together, one by one -/
noncomputable def uf1 (level : Int) (f : Nat → Nat) (p : Pa) : Nat → Nat :=
  if p.2.2 ≤ level then Uf.un (Uf.cp (Uf.cp f p.1.toNat) p.2.1.toNat) (Uf.R f p.1.toNat) (Uf.R f p.2.1.toNat) else f
noncomputable def ufL (level : Int) (L : List Pa) : Nat → Nat := L.foldl (uf1 level) id
theorem un_dn {ks : List (Nat × Nat)} {f : Nat → Nat} (h : Dn ks f) {x y : Nat} (hx : x ∈ ks.map (·.2)) (hy : y ∈ ks.map (·.2)) : Dn ks (Uf.un f x y) :=
  ⟨Uf.un_le h.le x y, fun z hz => by
    unfold Uf.un
    split
    · rcases Nat.le_total x y with h1 | h1
      · rw [Nat.min_eq_left h1]; exact hx
      · rw [Nat.min_eq_right h1]; exact hy
    · exact h.keys z hz⟩
theorem R_key {ks : List (Nat × Nat)} {f : Nat → Nat} (h : Dn ks f) {x : Nat} (hx : x ∈ ks.map (·.2)) : Uf.R f x ∈ ks.map (·.2) :=
  Uf.R_keys (I := fun z => z ∈ ks.map (·.2)) (fun z hz => h.keys z hz) h.le x hx
theorem uf1_dn {ks : List (Nat × Nat)} {f : Nat → Nat} (h : Dn ks f) (level : Int) {p : Pa} (hx : p.1.toNat ∈ ks.map (·.2)) (hy : p.2.1.toNat ∈ ks.map (·.2)) : Dn ks (uf1 level f p) := by
  unfold uf1
  split
  · exact un_dn (cp_dn (cp_dn h _) _) (R_key h hx) (R_key h hy)
  · exact h
/-- the objects behind the root's closure, lent out of a state -/
abbrev jnA (o0 : AO) (bm clk : Nat) (ks : List (Nat × Nat)) (f : Nat → Nat) (rest : List AO) : List AO := o0 :: ofO bm clk ks f :: .box [.ptr 1 0] :: .box [.fn 62 [.ptr 2 0, .ptr 3 0]] :: rest
theorem jnA_ok {n : Nat} {a : Ras} {bm clk : Nat} {ks : List (Nat × Nat)} {f : Nat → Nat} {rest : List AO} (hn : 6 ≤ n) (hr : ∀ o ∈ rest, okLB n o.vals = true) : OkA n (jnA (.box [.fz int a.1, .fz int a.2.1, .fz (.list int) a.2.2]) bm clk ks f rest) := fun o ho => by
  have h1 : Nat.blt 1 n = true := by simpa using (by omega : 1 < n)
  have h2 : Nat.blt 2 n = true := by simpa using (by omega : 2 < n)
  have h3 : Nat.blt 3 n = true := by simpa using (by omega : 3 < n)
  simp only [List.mem_cons] at ho
  rcases ho with rfl | rfl | rfl | rfl | ho
  · rfl
  · exact okLB_fz (α := Nat × Nat) ..
  · show (Nat.blt 1 n && true) = true
    rw [h1]; rfl
  · show ((Nat.blt 2 n && (Nat.blt 3 n && true)) && true) = true
    rw [h2, h3]; rfl
  · exact hr o ho
theorem root_lend (G : List (Nat × Value)) (o0 : AO) (bm clk : Nat) (ks : List (Nat × Nat)) (hk : Kys ks) (rest : List AO) (x : Nat) (f : Nat → Nat) (hf : Dn ks f) (hx : x ∈ ks.map (·.2)) (K : AV → List AO → Prop)
    (hK : K (.fz int (Uf.R f x : Nat)) (jnA o0 bm clk ks (Uf.cp f x) rest)) : ACall Tryz.prog G 62 [.fz int x, .ptr 2 0, .ptr 3 0] (jnA o0 bm clk ks f rest) K := by
  refine acall_frame [2, 3, 1] (rtA bm clk ks f) [.fz int x, .ptr 0 0, .ptr 1 0] (by simp only [frB, ndB, memB, List.all_cons, List.all_nil, Bool.or_false, Bool.and_true]; simp; exact ⟨⟨rfl, rfl⟩, rfl⟩) ⟨⟨rfl, rfl⟩, ⟨rfl, rfl⟩, ⟨congrArg some (of_same ..).symm, okLB_fz (α := Nat × Nat) ..⟩, trivial⟩ ⟨rfl, ?_⟩ rfl (root_any _ bm clk ks hk x f hf hx _ ?_)
  · simp only [List.all_cons, List.all_nil, Bool.and_true]
    show (true && (true && okLB 3 (ks.map fun e => AV.fz int (f e.2 : Int)))) = true
    rw [okLB_fz (α := Nat × Nat) 3 int (fun e => (f e.2 : Int))]; rfl
  · show K (.fz int (Uf.R f x : Nat)) (o0 :: mapO _ (ofO bm clk ks (Uf.cp f x)) :: .box [.ptr 1 0] :: .box [.fn 62 [.ptr 2 0, .ptr 3 0]] :: (rest ++ []))
    rw [of_same, List.append_nil]
    exact hK
/-- the groups that have come out -/
def outL (R : Nat → Nat) (fst : List Nat) (j : Nat) : List (List Int) := ((fst.take j).filter fun k => decide (R k = k)).map fun k => natL (Gr.mem R k fst)
theorem outL_next (R : Nat → Nat) (fst : List Nat) {j : Nat} (hj : j < fst.length) : outL R fst (j + 1) = if R fst[j] = fst[j] then outL R fst j ++ [natL (Gr.mem R fst[j] fst)] else outL R fst j := by
  unfold outL
  rw [List.take_add_one, List.getElem?_eq_getElem hj, List.filter_append, List.map_append]
  by_cases h : R fst[j] = fst[j]
  · rw [if_pos h]; simp [h]
  · rw [if_neg h]; simp [h]
theorem outL_len (R : Nat → Nat) (fst : List Nat) (j : Nat) : (outL R fst j).length ≤ fst.length := by
  unfold outL
  rw [List.length_map]
  have h1 := List.length_filter_le (fun k => decide (R k = k)) (fst.take j)
  have h2 := List.length_take_le' j fst
  omega
theorem zero_sl (c : Cx) : ∃ zv, (zeroValue 30).run Tryz.prog c.w = .ok zv c.w ∧ Rel c .nilSl zv := ⟨.slice none 0 0, by kernel_rfl, by unfold Rel; exact ⟨none, rfl⟩⟩
/-- the map of groups, as the state knows it -/
abbrev grO (bm clk : Nat) (Gs : List Gr.Gp) (R : Nat → Nat) (pre : List Nat) : AO := .mapo (.map bm clk (Gs.map fun e => (e.1, kv1 (e.2.1 : Int)))) (Gs.map fun e => .ref (e.2.2 + 6) 0 (Gr.mem R e.2.1 pre).length)
theorem grO_ok {n bm clk : Nat} {Gs : List Gr.Gp} {R : Nat → Nat} {pre : List Nat} (h : ∀ e ∈ Gs, e.2.2 + 6 < n) : okLB n (grO bm clk Gs R pre).vals = true := by
  show okLB n (Gs.map fun e => AV.ref (e.2.2 + 6) 0 (Gr.mem R e.2.1 pre).length) = true
  induction Gs with
  | nil => rfl
  | cons e Gs ih =>
    rw [List.map_cons]
    unfold okLB
    rw [ih fun e he => h e (List.mem_cons_of_mem _ he)]
    show (Nat.blt (e.2.2 + 6) n && true) = true
    have := h e (List.mem_cons_self ..)
    simpa using this
theorem gr_set {bm clk : Nat} {Gs : List Gr.Gp} {R : Nat → Nat} {pre : List Nat} {z q : Nat} {e : Gr.Gp} (hnd : (Gs.map (·.2.1)).Nodup) (hq : Gs[q]? = some e) (hee : e.2.1 = R z) (tk : Nat) :
    AO.mapo (.map bm clk (Gs.map fun e => (e.1, kv1 (e.2.1 : Int)))) ((Gs.map fun e => AV.ref (e.2.2 + 6) 0 (Gr.mem R e.2.1 pre).length).set q (.ref (tk + 6) 0 ((Gr.mem R (R z) pre).length + 1))) = grO bm clk (Gs.set q (e.1, e.2.1, tk)) R (pre ++ [z]) := by
  have h1 : (Gs.set q (e.1, e.2.1, tk)).map (fun e => (e.1, kv1 (e.2.1 : Int))) = Gs.map fun e => (e.1, kv1 (e.2.1 : Int)) := by
    apply List.ext_getElem?
    intro m
    simp only [List.getElem?_map, List.getElem?_set]
    by_cases hqm : q = m
    · subst hqm; rw [if_pos rfl, if_pos (get_lt hq), hq]; rfl
    · rw [if_neg hqm]
  have h2 : (Gs.set q (e.1, e.2.1, tk)).map (fun e => AV.ref (e.2.2 + 6) 0 (Gr.mem R e.2.1 (pre ++ [z])).length) = (Gs.map fun e => AV.ref (e.2.2 + 6) 0 (Gr.mem R e.2.1 pre).length).set q (.ref (tk + 6) 0 ((Gr.mem R (R z) pre).length + 1)) := by
    apply List.ext_getElem?
    intro m
    rw [List.getElem?_map, List.getElem?_set, List.getElem?_set, List.getElem?_map, List.length_map]
    by_cases hqm : q = m
    · subst hqm
      rw [if_pos rfl, if_pos (get_lt hq), if_pos rfl, if_pos (get_lt hq)]
      simp only [Option.map_some]
      rw [hee, Gr.mem_snoc, if_pos rfl, List.length_append, List.length_singleton]
    · rw [if_neg hqm, if_neg hqm]
      cases hm : Gs[m]? with
      | none => rfl
      | some e' =>
        have hne : ¬ R z = e'.2.1 := fun h => by
          have h1 : (Gs.map (·.2.1))[q]? = (Gs.map (·.2.1))[m]? := by rw [List.getElem?_map, List.getElem?_map, hq, hm]; simp [hee, h]
          exact hqm ((List.getElem?_inj (by simpa using get_lt hq) hnd).1 h1)
        simp only [Option.map_some]
        rw [Gr.mem_snoc, if_neg hne]
  rw [grO, h1, h2]
theorem gr_new {bm clk : Nat} {Gs : List Gr.Gp} {R : Nat → Nat} {pre : List Nat} {z : Nat} (hno : R z ∉ Gs.map (·.2.1)) (hnil : Gr.mem R (R z) pre = []) (tk : Nat) :
    AO.mapo (.map bm (clk + 1) ((Gs.map fun e => (e.1, kv1 (e.2.1 : Int))) ++ [(clk, kv1 (R z : Int))])) ((Gs.map fun e => AV.ref (e.2.2 + 6) 0 (Gr.mem R e.2.1 pre).length) ++ [.ref (tk + 6) 0 1]) = grO bm (clk + 1) (Gs ++ [(clk, R z, tk)]) R (pre ++ [z]) := by
  have h2 : Gs.map (fun e => AV.ref (e.2.2 + 6) 0 (Gr.mem R e.2.1 (pre ++ [z])).length) = Gs.map fun e => AV.ref (e.2.2 + 6) 0 (Gr.mem R e.2.1 pre).length := List.map_congr_left fun e he => by
    rw [Gr.mem_snoc, if_neg (fun h : R z = e.2.1 => hno (by rw [h]; exact List.mem_map.2 ⟨e, he, rfl⟩))]
  rw [grO, List.map_append, List.map_append, h2]
  simp only [List.map_cons, List.map_nil]
  rw [Gr.mem_snoc, if_pos rfl, hnil]
  rfl
set_option maxHeartbeats 4000000 in
theorem joined_ok (E : Errs) (a : Ras) (level : Int) (hv : rerr a = 0) {w h : Nat} (R : RasN a w h) (hs : w * h ≤ 80) (bN : Nat → Nat) (hba : basQ a = lst (w * h) (fun i => (bN i : Int))) (hbb : ∀ i, i < w * h → bN i < w * h) (K : AV → List AO → Prop)
    (hK : ∀ L (first : List Nat), PL (fun i => (bN i : Int)) (hts a) (fun i k => i < w * h ∧ k ∈ arN w h i) L → first.Pairwise (· < ·) → (∀ y, y ∈ first ↔ ∃ i, i < w * h ∧ bN i = y) →
      K (.tup [.fz (.list (.list int)) ((first.filter fun k => decide (Uf.R (ufL level L) k = k)).map fun k => natL (first.filter fun z => decide (Uf.R (ufL level L) z = k))), .fz .raw .nilIface]) []) :
    ACall Tryz.prog (G8 E) 21 [.fz RasT a, .fz int level] [] K := by
  have hl := R.len
  have hwh := R.wh
  have hbI : ∀ i, i < w * h → 0 ≤ (bN i : Int) ∧ (bN i : Int) < 16384 := fun i hi => by have := hbb i hi; omega
  obtain ⟨n, hn⟩ : ∃ n, n = w * h := ⟨_, rfl⟩
  let b : Nat → Int := fun i => (bN i : Int)
  have hbl := lst_len n b
  let bA : AO := .box [.fz int a.1, .fz int a.2.1, .fz (.list int) a.2.2]
  refine acall_mk (E := envAt (G8 E) 128 0) (envOk _ _ _) Tryz.func21 rfl rfl rfl rfl rfl ?_
  (repeat' (first | exact trivial | exact fun h => h | refine And.intro ?_ ?_ | (intro hb; try simp at hb) | omega | exact rfl | exact Nat.le_refl _ | (show _ + 1 ≤ 4294967296; omega) | (dsimp only; omega) | (show (_ : Int) ≤ (_ : Int); omega) | (show _ < List.length _; simp only [List.length_set, List.length_append, List.length_take]; omega) | (show wantB _ _ = true; simp <;> omega) | (show (_ : Bool) = _; simp_all; done) | (exfalso; omega) | fail))
  refine acall_conv [.dat RasT] _ _ _ rfl trivial (acall_frame0 rfl (basins_one E a (by omega) _ ?_))
  rw [hv, hba]
  (repeat' (first | exact trivial | exact fun h => h | refine And.intro ?_ ?_ | (intro hb; try simp at hb) | omega | exact rfl | exact Nat.le_refl _ | (show _ + 1 ≤ 4294967296; omega) | (dsimp only; omega) | (show (_ : Int) ≤ (_ : Int); omega) | (show _ < List.length _; simp only [List.length_set, List.length_append, List.length_take]; omega) | (show wantB _ _ = true; simp <;> omega) | (show (_ : Bool) = _; simp_all; done) | (exfalso; omega) | fail))
  refine acall_conv [.dat RasT] _ _ _ rfl trivial (acall_frame0 rfl (passes_ok E a hv R hs b hba hbI _ (fun L hLl hL => ?_)))
  rw [← hn] at hl hwh hba hs hbb hL hK
  have hK := fun first : List Nat => hK L first hL
  (repeat' (first | exact trivial | exact fun h => h | refine And.intro ?_ ?_ | (intro hb; try simp at hb) | omega | exact rfl | exact Nat.le_refl _ | (show _ + 1 ≤ 4294967296; omega) | (dsimp only; omega) | (show (_ : Int) ≤ (_ : Int); omega) | (show _ < List.length _; simp only [List.length_set, List.length_append, List.length_take]; omega) | (show wantB _ _ = true; simp <;> omega) | (show (_ : Bool) = _; simp_all; done) | (exfalso; omega) | fail))
  refine aact_make fun bm => ?_
  (repeat' (first | exact trivial | exact fun h => h | refine And.intro ?_ ?_ | (intro hb; try simp at hb) | omega | exact rfl | exact Nat.le_refl _ | (show _ + 1 ≤ 4294967296; omega) | (dsimp only; omega) | (show (_ : Int) ≤ (_ : Int); omega) | (show _ < List.length _; simp only [List.length_set, List.length_append, List.length_take]; omega) | (show wantB _ _ = true; simp <;> omega) | (show (_ : Bool) = _; simp_all; done) | (exfalso; omega) | fail))
  refine ⟨Nat × Nat × List (Nat × Nat), fun x => ⟨[(1, .fz int level), (8, .fz (.list PaT) L), (10, .ptr 2 0), (40, .fz (.list int) (lst n b)), (41, .fz int n), (42, .fz int x.1)], [bA, ofO bm x.2.1 x.2.2 id, .box [.ptr 1 0]]⟩, fun x => x.1 ≤ n ∧ KB bN x.1 x.2.1 x.2.2, fun x => n - x.1, (0, 0, []), ⟨Nat.zero_le _, ⟨List.nodup_nil, fun y => by simp, List.nodup_nil, (fun e he => by cases he), Nat.le_refl _⟩⟩, Ent.sub ?_ ?_, ?_⟩
  · (repeat' (first | exact rfl | refine cons_eq ?_ ?_))
  · (repeat' (first | exact trivial | exact rfl | refine And.intro ?_ ?_))
    · exact congrArg (fun z => AV.fz (.list int) (lst z b)) hn.symm
    · exact congrArg (fun z : Nat => AV.fz int (z : Int)) ((lst_len _ _).trans hn.symm)
  rintro ⟨k, clk, ks⟩ ⟨hk, hB⟩
  have hk : k ≤ n := hk
  have hB : KB bN k clk ks := hB
  show awp _ _ _ ⟨[(1, .fz int level), (8, .fz (.list PaT) L), (10, .ptr 2 0), (40, .fz (.list int) (lst n b)), (41, .fz int n), (42, .fz int k)], [bA, ofO bm clk ks id, .box [.ptr 1 0]]⟩
  have hlen := hB.len
  have hksm : ∀ e ∈ ks, e.2 < n := fun e he => by
    obtain ⟨i, h1, h2⟩ := (hB.mem e.2).1 (List.mem_map.2 ⟨e, he, rfl⟩)
    rw [← h2]; exact hbb i (by omega)
  have hKy : Kys ks := ⟨hB.nd, fun e he => by have := hksm e he; omega⟩
  by_cases hkn : k < n
  · have hbk := hbb k hkn
    have g2 : (lst n b).getD (Int.toNat (k : Int)) int.dft = (bN k : Int) := by rw [Int.toNat_natCast, List.getD]; exact lst_get _ hkn
    (repeat' (first | exact trivial | exact fun h => h | refine And.intro ?_ ?_ | (intro hb; try simp at hb) | omega | exact rfl | exact Nat.le_refl _ | (show _ + 1 ≤ 4294967296; omega) | (dsimp only; omega) | (show (_ : Int) ≤ (_ : Int); omega) | (show _ < List.length _; simp only [List.length_set, List.length_append, List.length_take]; omega) | (show wantB _ _ = true; simp <;> omega) | (show (_ : Bool) = _; simp_all; done) | (exfalso; omega) | refine aRegion_auto (by decide +kernel) ?_ | fail))
    refine aact_store (tok := 1) (off := 0) (bm := bm) (clock := clk) (ks := ks.map fun e => (e.1, kv1 (e.2 : Int))) (vs := ks.map fun e => .fz int ((id e.2 : Nat) : Int)) (kv := kv1 (bN k : Int)) ?_ ?_ Tryz.underlying126 keyed1 (fun c v h => ?_) (key1_ok (by omega)) (ofO_key hKy) (fun hno => ?_) (fun j y hj hy => ?_)
    · rfl
    · rfl
    · have h := rel_kv1 c v h
      rw [g2] at h; exact h
    · (repeat' (first | exact trivial | exact fun h => h | refine And.intro ?_ ?_ | (intro hb; try simp at hb) | omega | exact rfl | exact Nat.le_refl _ | (show _ + 1 ≤ 4294967296; omega) | (dsimp only; omega) | (show (_ : Int) ≤ (_ : Int); omega) | (show _ < List.length _; simp only [List.length_set, List.length_append, List.length_take]; omega) | (show wantB _ _ = true; simp <;> omega) | (show (_ : Bool) = _; simp_all; done) | (exfalso; omega) | refine aRegion_auto (by decide +kernel) ?_ | fail))
      refine ⟨(k + 1, clk + 1, ks ++ [(clk, bN k)]), ⟨by show k + 1 ≤ n; omega, hB.new fun e he h => hno _ (List.mem_map.2 ⟨e, he, rfl⟩) (by rw [h])⟩, by show n - (k + 1) < n - k; omega, Ent.sub ?_ ?_⟩
      · exact congrArg (fun z => [bA, z, AO.box [.ptr 1 0]]) (of_new bm clk ks (bN k) g2)
      · (repeat' (first | exact trivial | exact rfl | refine And.intro ?_ ?_))
    · obtain ⟨e, he, hee⟩ := of_at hj hy
      (repeat' (first | exact trivial | exact fun h => h | refine And.intro ?_ ?_ | (intro hb; try simp at hb) | omega | exact rfl | exact Nat.le_refl _ | (show _ + 1 ≤ 4294967296; omega) | (dsimp only; omega) | (show (_ : Int) ≤ (_ : Int); omega) | (show _ < List.length _; simp only [List.length_set, List.length_append, List.length_take]; omega) | (show wantB _ _ = true; simp <;> omega) | (show (_ : Bool) = _; simp_all; done) | (exfalso; omega) | refine aRegion_auto (by decide +kernel) ?_ | fail))
      refine ⟨(k + 1, clk, ks), ⟨by show k + 1 ≤ n; omega, hB.keep (by rw [← hee]; exact List.mem_map.2 ⟨e, List.mem_of_getElem? he, rfl⟩)⟩, by show n - (k + 1) < n - k; omega, Ent.sub ?_ ?_⟩
      · exact congrArg (fun z => [bA, z, AO.box [.ptr 1 0]]) (of_keep bm clk he hee g2)
      · (repeat' (first | exact trivial | exact rfl | refine And.intro ?_ ?_))
  obtain rfl : k = n := by omega
  have hLm : ∀ p ∈ L, p.1.toNat ∈ ks.map (·.2) ∧ p.2.1.toNat ∈ ks.map (·.2) ∧ ((p.1.toNat : Nat) : Int) = p.1 ∧ ((p.2.1.toNat : Nat) : Int) = p.2.1 := fun p hp => by
    obtain ⟨x, y, v⟩ := p
    obtain ⟨_, ⟨⟨i, z, ⟨q1, q2⟩, q3, q4, _⟩, _⟩⟩ := (hL.mem x y v).1 hp
    have hz : z < k := by rw [hn]; exact ((arN_mem w h i).2 z).1 q2 |>.1
    subst q3 q4
    refine ⟨(hB.mem _).2 ⟨i, q1, (Int.toNat_natCast _).symm⟩, (hB.mem _).2 ⟨z, hz, (Int.toNat_natCast _).symm⟩, ?_, ?_⟩
    · exact congrArg (fun z : Nat => (z : Int)) (Int.toNat_natCast _)
    · exact congrArg (fun z : Nat => (z : Int)) (Int.toNat_natCast _)
  (repeat' (first | exact trivial | exact fun h => h | refine And.intro ?_ ?_ | (intro hb; try simp at hb) | omega | exact rfl | exact Nat.le_refl _ | (show _ + 1 ≤ 4294967296; omega) | (dsimp only; omega) | (show (_ : Int) ≤ (_ : Int); omega) | (show _ < List.length _; simp only [List.length_set, List.length_append, List.length_take]; omega) | (show wantB _ _ = true; simp <;> omega) | (show (_ : Bool) = _; simp_all; done) | (exfalso; omega) | refine aRegion_auto (by decide +kernel) ?_ | fail))
  refine ⟨Nat, fun j => ⟨[(1, .fz int level), (10, .ptr 2 0), (13, .ptr 3 0), (51, .fz (.list PaT) L), (52, .fz int L.length), (53, .fz int j)], [bA, ofO bm clk ks (ufL level (L.take j)), .box [.ptr 1 0], .box [.fn 62 [.ptr 2 0, .ptr 3 0]]]⟩, fun j => j ≤ L.length ∧ Dn ks (ufL level (L.take j)), fun j => L.length - j, 0, ⟨Nat.zero_le _, ⟨fun x => Nat.le_refl _, fun x hx => hx⟩⟩, Ent.sub ?_ ?_, ?_⟩
  · (repeat' (first | exact rfl | refine cons_eq ?_ ?_))
  · (repeat' (first | exact trivial | exact rfl | refine And.intro ?_ ?_))
  rintro j ⟨hj, hD⟩
  have hj : j ≤ L.length := hj
  have hD : Dn ks (ufL level (L.take j)) := hD
  obtain ⟨f, hf⟩ : ∃ f, ufL level (L.take j) = f := ⟨_, rfl⟩
  show awp _ _ _ ⟨[(1, .fz int level), (10, .ptr 2 0), (13, .ptr 3 0), (51, .fz (.list PaT) L), (52, .fz int L.length), (53, .fz int j)], [bA, ofO bm clk ks (ufL level (L.take j)), .box [.ptr 1 0], .box [.fn 62 [.ptr 2 0, .ptr 3 0]]]⟩
  have hDf : Dn ks f := hf ▸ hD
  rw [hf] at hD ⊢
  by_cases hjn : j < L.length
  · obtain ⟨p, hp⟩ : ∃ p, L[j] = p := ⟨_, rfl⟩
    obtain ⟨hx, hy, hx1, hy1⟩ := hLm p (by rw [← hp]; exact List.getElem_mem _)
    have g1 : L.getD (Int.toNat (j : Int)) PaT.dft = p := by rw [Int.toNat_natCast, List.getD, List.getElem?_eq_getElem hjn, hp]; rfl
    have hstep : ufL level (L.take (j + 1)) = uf1 level f p := by
      unfold ufL at hf ⊢
      rw [List.take_add_one, List.getElem?_eq_getElem hjn, hp, List.foldl_append, hf]; rfl
    have hD2 := uf1_dn hD level hx hy
    have g3 : L[j]?.getD PaT.dft = p := by rw [List.getElem?_eq_getElem hjn, hp]; rfl
    by_cases hle : p.2.2 ≤ level
    · have hle1 : (L.getD (Int.toNat (j : Int)) PaT.dft).2.2 ≤ level := by rw [g1]; exact hle
      have hle3 : (L[j]?.getD PaT.dft).2.2 ≤ level := by rw [g3]; exact hle
      obtain ⟨x, hx0⟩ : ∃ x, p.1.toNat = x := ⟨_, rfl⟩
      obtain ⟨y, hy0⟩ : ∃ y, p.2.1.toNat = y := ⟨_, rfl⟩
      obtain ⟨f1, hf1⟩ : ∃ f1, Uf.cp f x = f1 := ⟨_, rfl⟩
      obtain ⟨f2, hf2⟩ : ∃ f2, Uf.cp f1 y = f2 := ⟨_, rfl⟩
      rw [hx0] at hx hx1
      rw [hy0] at hy hy1
      have hD1 : Dn ks f1 := by rw [← hf1]; exact cp_dn hD x
      have hDf2 : Dn ks f2 := by rw [← hf2]; exact cp_dn hD1 y
      (repeat' (first | exact trivial | exact fun h => h | refine And.intro ?_ ?_ | (intro hb; try simp at hb) | omega | exact rfl | exact Nat.le_refl _ | (show _ + 1 ≤ 4294967296; omega) | (dsimp only; omega) | (show (_ : Int) ≤ (_ : Int); omega) | (show _ < List.length _; simp only [List.length_set, List.length_append, List.length_take]; omega) | (show wantB _ _ = true; simp <;> omega) | (show (_ : Bool) = _; simp_all; done) | (exfalso; omega) | refine aRegion_auto (by decide +kernel) ?_ | fail))
      let bP : AO := .box [.fz int (L.getD (Int.toNat (j : Int)) PaT.dft).1, .fz int (L.getD (Int.toNat (j : Int)) PaT.dft).2.1, .fz int (L.getD (Int.toNat (j : Int)) PaT.dft).2.2]
      refine exEff (v0 := .fz int (Uf.R f x : Nat)) (A0 := [bA, ofO bm clk ks f1, .box [.ptr 1 0], .box [.fn 62 [.ptr 2 0, .ptr 3 0]], bP]) ?_ ?_
      · refine acall_arg (root_lend _ bA bm clk ks hKy [bP] x f hD hx _ ?_) ?_
        · rw [hf1]; exact ⟨rfl, rfl⟩
        · refine congrArg (fun z => [AV.fz int z, .ptr 2 0, .ptr 3 0]) (?_ : (x : Int) = (L.getD (Int.toNat (j : Int)) PaT.dft).1)
          rw [g1]; exact hx1
      have hRy : Uf.R f1 y = Uf.R f y := by rw [← hf1]; exact Uf.cp_R hD.le x y
      refine exEff (v0 := .fz int (Uf.R f y : Nat)) (A0 := [bA, ofO bm clk ks f2, .box [.ptr 1 0], .box [.fn 62 [.ptr 2 0, .ptr 3 0]], bP]) ?_ ?_
      · refine acall_arg (root_lend _ bA bm clk ks hKy [bP] y f1 hD1 hy _ ?_) ?_
        · rw [hf2, hRy]; exact ⟨rfl, rfl⟩
        · refine congrArg (fun z => [AV.fz int z, .ptr 2 0, .ptr 3 0]) (?_ : (y : Int) = (L.getD (Int.toNat (j : Int)) PaT.dft).2.1)
          rw [g1]; exact hy1
      obtain ⟨rx, hrx⟩ : ∃ r, Uf.R f x = r := ⟨_, rfl⟩
      obtain ⟨ry, hry⟩ : ∃ r, Uf.R f y = r := ⟨_, rfl⟩
      have hkx : rx ∈ ks.map (·.2) := by rw [← hrx]; exact R_key hD hx
      have hky : ry ∈ ks.map (·.2) := by rw [← hry]; exact R_key hD hy
      have hkm : max rx ry ∈ ks.map (·.2) := by
        rcases Nat.le_total rx ry with h1 | h1
        · rw [Nat.max_eq_right h1]; exact hky
        · rw [Nat.max_eq_left h1]; exact hkx
      obtain ⟨em, hem, hemx⟩ := List.mem_map.1 hkm
      have hm16 := hKy.small em hem
      have hst2 : uf1 level f p = Uf.un f2 rx ry := by unfold uf1; rw [if_pos hle, hx0, hy0, hf1, hf2, hrx, hry]
      rw [hrx, hry]
      (repeat' (first | exact trivial | exact fun h => h | refine And.intro ?_ ?_ | (intro hb; try simp at hb) | omega | exact rfl | exact Nat.le_refl _ | (show _ + 1 ≤ 4294967296; omega) | (dsimp only; omega) | (show (_ : Int) ≤ (_ : Int); omega) | (show _ < List.length _; simp only [List.length_set, List.length_append, List.length_take]; omega) | (show wantB _ _ = true; simp <;> omega) | (show (_ : Bool) = _; simp_all; done) | (exfalso; omega) | refine aRegion_auto (by decide +kernel) ?_ | fail))
      refine aact_store (tok := 1) (off := 0) (bm := bm) (clock := clk) (ks := ks.map fun e => (e.1, kv1 (e.2 : Int))) (vs := ks.map fun e => .fz int (f2 e.2 : Int)) (kv := kv1 ((max rx ry : Nat) : Int)) ?_ ?_ Tryz.underlying126 keyed1 (fun c v h => ?_) (key1_ok (by omega)) (ofO_key hKy) (fun hno => absurd rfl (hno (em.1, kv1 (em.2 : Int)) (List.mem_map.2 ⟨em, hem, rfl⟩) |> fun h => by rw [hemx] at h; exact h)) (fun q y hq hy => ?_)
      · rfl
      · rfl
      · have h := rel_kv1 c v h
        rw [h]
        exact congrArg kv1 (show max (rx : Int) ry = ((max rx ry : Nat) : Int) by omega)
      · obtain ⟨e, he, hee⟩ := of_at hq hy
        (repeat' (first | exact trivial | exact fun h => h | refine And.intro ?_ ?_ | (intro hb; try simp at hb) | omega | exact rfl | exact Nat.le_refl _ | (show _ + 1 ≤ 4294967296; omega) | (dsimp only; omega) | (show (_ : Int) ≤ (_ : Int); omega) | (show _ < List.length _; simp only [List.length_set, List.length_append, List.length_take]; omega) | (show wantB _ _ = true; simp <;> omega) | (show (_ : Bool) = _; simp_all; done) | (exfalso; omega) | refine aRegion_auto (by decide +kernel) ?_ | fail))
        refine ⟨j + 1, ⟨by show j + 1 ≤ L.length; omega, by rw [hstep]; exact hD2⟩, by show L.length - (j + 1) < L.length - j; omega, Ent.ren [0, 1, 2, 3] rfl ?_ ?_⟩
        · (repeat' (first | exact trivial | exact rfl | refine And.intro ?_ ?_))
          · refine congrArg some (Eq.trans ?_ (of_same _ bm clk ks _).symm)
            have h1 := of_set hKy (f := f2) he (min rx ry)
            rw [hee] at h1
            have h2 : ((min rx ry : Nat) : Int) = min (rx : Int) ry := by omega
            rw [h2] at h1
            rw [hstep, hst2]
            exact congrArg (AO.mapo (.map bm clk (ks.map fun e => (e.1, kv1 (e.2 : Int))))) h1
          · exact okLB_fz (α := Nat × Nat) ..
        · (repeat' (first | exact trivial | exact rfl | refine And.intro ?_ ?_))
    · have hle1 : ¬ (L.getD (Int.toNat (j : Int)) PaT.dft).2.2 ≤ level := by rw [g1]; exact hle
      have hle3 : ¬ (L[j]?.getD PaT.dft).2.2 ≤ level := by rw [g3]; exact hle
      have hst2 : uf1 level f p = f := if_neg hle
      (repeat' (first | exact trivial | exact fun h => h | refine And.intro ?_ ?_ | (intro hb; try simp at hb) | omega | exact rfl | exact Nat.le_refl _ | (show _ + 1 ≤ 4294967296; omega) | (dsimp only; omega) | (show (_ : Int) ≤ (_ : Int); omega) | (show _ < List.length _; simp only [List.length_set, List.length_append, List.length_take]; omega) | (show wantB _ _ = true; simp <;> omega) | (show (_ : Bool) = _; simp_all; done) | (exfalso; omega) | refine aRegion_auto (by decide +kernel) ?_ | fail))
      refine ⟨j + 1, ⟨by show j + 1 ≤ L.length; omega, by rw [hstep]; exact hD2⟩, by show L.length - (j + 1) < L.length - j; omega, Ent.ren [0, 1, 2, 3] rfl ?_ ?_⟩
      · (repeat' (first | exact trivial | exact rfl | refine And.intro ?_ ?_))
        · exact congrArg some ((congrArg (ofO bm clk ks) (hst2.symm.trans hstep.symm)).trans (of_same _ bm clk ks _).symm)
        · exact okLB_fz (α := Nat × Nat) ..
      · (repeat' (first | exact trivial | exact rfl | refine And.intro ?_ ?_))
  obtain rfl : j = L.length := by omega
  rw [List.take_length] at hf
  have hst : ∀ e ∈ ks, e.1 < clk := hB.lt
  (repeat' (first | exact trivial | exact fun h => h | refine And.intro ?_ ?_ | (intro hb; try simp at hb) | omega | exact rfl | exact Nat.le_refl _ | (show _ + 1 ≤ 4294967296; omega) | (dsimp only; omega) | (show (_ : Int) ≤ (_ : Int); omega) | (show _ < List.length _; simp only [List.length_set, List.length_append, List.length_take]; omega) | (show wantB _ _ = true; simp <;> omega) | (show (_ : Bool) = _; simp_all; done) | (exfalso; omega) | refine aRegion_auto (by decide +kernel) ?_ | fail))
  refine aact_make fun bm2 => ?_
  (repeat' (first | exact trivial | exact fun h => h | refine And.intro ?_ ?_ | (intro hb; try simp at hb) | omega | exact rfl | exact Nat.le_refl _ | (show _ + 1 ≤ 4294967296; omega) | (dsimp only; omega) | (show (_ : Int) ≤ (_ : Int); omega) | (show _ < List.length _; simp only [List.length_set, List.length_append, List.length_take]; omega) | (show wantB _ _ = true; simp <;> omega) | (show (_ : Bool) = _; simp_all; done) | (exfalso; omega) | refine aRegion_auto (by decide +kernel) ?_ | fail))
  refine aact_range (tok := 1) (off := 0) (bm := bm) (clock := clk) (ks := ks.map fun e => (e.1, kv1 (e.2 : Int))) (vs := ks.map fun e => .fz int (f e.2 : Int)) ?_ ?_ Tryz.underlying126 ?_
  · rfl
  · rfl
  (repeat' (first | exact trivial | exact fun h => h | refine And.intro ?_ ?_ | (intro hb; try simp at hb) | omega | exact rfl | exact Nat.le_refl _ | (show _ + 1 ≤ 4294967296; omega) | (dsimp only; omega) | (show (_ : Int) ≤ (_ : Int); omega) | (show _ < List.length _; simp only [List.length_set, List.length_append, List.length_take]; omega) | (show wantB _ _ = true; simp <;> omega) | (show (_ : Bool) = _; simp_all; done) | (exfalso; omega) | refine aRegion_auto (by decide +kernel) ?_ | fail))
  refine ⟨List (Nat × Nat) × List Nat × List Nat, fun x => ⟨[(10, .ptr 2 0), (13, .ptr 3 0), (18, .ptr 4 0), (19, .ref 6 0 x.2.2.length), (79, .ptr 5 0)], jnA bA bm clk ks f [.mapo (.map bm2 0 []) [], .mapo (.iter bm clk x.2.1 clk) [], .row int (natL x.2.2)]⟩, fun x => RK ks x.1 x.2.1 x.2.2, fun x => ks.length - x.2.2.length, ([], [], []), RK.start ks, (Ent.nil 19 int rfl).trans (Ent.sub ?_ ?_), ?_⟩
  · (repeat' (first | exact rfl | refine cons_eq ?_ ?_))
  · (repeat' (first | exact trivial | exact rfl | refine And.intro ?_ ?_))
  rintro ⟨es, seen, out⟩ hR
  have hR : RK ks es seen out := hR
  show awp _ _ _ ⟨[(10, .ptr 2 0), (13, .ptr 3 0), (18, .ptr 4 0), (19, .ref 6 0 out.length), (79, .ptr 5 0)], jnA bA bm clk ks f [.mapo (.map bm2 0 []) [], .mapo (.iter bm clk seen clk) [], .row int (natL out)]⟩
  have hle := hR.le
  have hnl := natL_len out
  refine aact_next (tok := 5) (m := 1) (off := 0) (bm := bm) (since := clk) (clock := clk) (last := clk) (seen := seen) (ks := ks.map fun e => (e.1, kv1 (e.2 : Int))) (vs := ks.map fun e => .fz int (f e.2 : Int)) (us := []) ?_ ?_ ?_ (fun y hy => ?_) (Nat.le_refl _) (fun hall => ?_) (fun y hy hn2 => ?_)
  · rfl
  · rfl
  · rfl
  · obtain ⟨e, he, rfl⟩ := List.mem_map.1 hy
    exact hst e he
  · have hperm := hR.done hB.st (fun e he => hall (e.1, kv1 (e.2 : Int)) (List.mem_map.2 ⟨e, he, rfl⟩))
    (repeat' (first | exact trivial | exact fun h => h | refine And.intro ?_ ?_ | (intro hb; try simp at hb) | omega | exact rfl | exact Nat.le_refl _ | (show _ + 1 ≤ 4294967296; omega) | (dsimp only; omega) | (show (_ : Int) ≤ (_ : Int); omega) | (show _ < List.length _; simp only [List.length_set, List.length_append, List.length_take]; omega) | (show wantB _ _ = true; simp <;> omega) | (show (_ : Bool) = _; simp_all; done) | (exfalso; omega) | refine aRegion_auto (by decide +kernel) ?_ | fail))
    refine acall_frame [6] [.row int (natL out)] [.ref 0 0 out.length] rfl ⟨⟨rfl, trivial⟩, trivial⟩ ⟨rfl, rfl⟩ rfl (sort_any _ (natL out) out.length hnl (by omega) _ fun ys y1 y2 => ?_)
    obtain ⟨fst, hfst, hfp, hfs⟩ := sorted_nat y1 y2 (hperm.nodup_iff.2 hB.nd)
    have hflen : fst.length = out.length := hfp.length_eq
    rw [hfst]
    have hfm : ∀ z ∈ fst, z ∈ ks.map (·.2) := fun z hz => hperm.mem_iff.1 (hfp.mem_iff.1 hz)
    have hf80 : fst.length ≤ 80 := by omega
    have hnf := natL_len fst
    obtain ⟨Rt, hRt⟩ : ∃ Rt : Nat → Nat, Uf.R f = Rt := ⟨_, rfl⟩
    refine ⟨Nat × (Nat → Nat) × Nat × List Gr.Gp × List AO, fun x => ⟨[(10, .ptr 2 0), (13, .ptr 3 0), (18, .ptr 4 0), (19, .ref 5 0 fst.length), (90, .ref 5 0 fst.length), (91, .fz int fst.length), (92, .fz int x.1)], jnA bA bm clk ks x.2.1 (grO bm2 x.2.2.1 x.2.2.2.1 Rt (fst.take x.1) :: .row int (natL fst) :: x.2.2.2.2)⟩,
      fun x => x.1 ≤ fst.length ∧ Dn ks x.2.1 ∧ Uf.R x.2.1 = Rt ∧ Gr.GI Rt (fst.take x.1) x.2.2.2.1 x.2.2.2.2, fun x => fst.length - x.1, (0, f, 0, [], []), ⟨Nat.zero_le _, hDf, hRt, Gr.GI.start Rt⟩, Ent.ren [0, 1, 2, 3, 4, 6] rfl ?_ ?_, ?_⟩
    · (repeat' (first | exact trivial | exact rfl | refine And.intro ?_ ?_))
      · exact congrArg some (of_same _ bm clk ks _).symm
      · exact okLB_fz (α := Nat × Nat) ..
    · (repeat' (first | exact trivial | exact rfl | refine And.intro ?_ ?_))
      · exact congrArg (AV.ref 6 0) hflen.symm
      · exact congrArg (AV.ref 6 0) hflen.symm
      · exact congrArg (fun z : Nat => AV.fz int (z : Int)) hflen.symm
    rintro ⟨j, f3, clk2, Gs, T⟩ ⟨hj, hD3, hR3, hG⟩
    have hj : j ≤ fst.length := hj
    have hD3 : Dn ks f3 := hD3
    have hR3 : Uf.R f3 = Rt := hR3
    have hG : Gr.GI Rt (fst.take j) Gs T := hG
    show awp _ _ _ ⟨[(10, .ptr 2 0), (13, .ptr 3 0), (18, .ptr 4 0), (19, .ref 5 0 fst.length), (90, .ref 5 0 fst.length), (91, .fz int fst.length), (92, .fz int j)], jnA bA bm clk ks f3 (grO bm2 clk2 Gs Rt (fst.take j) :: .row int (natL fst) :: T)⟩
    by_cases hjf : j < fst.length
    · obtain ⟨z, hz⟩ : ∃ z, fst[j] = z := ⟨_, rfl⟩
      have hzm : z ∈ ks.map (·.2) := hfm z (by rw [← hz]; exact List.getElem_mem _)
      have ge : (natL fst).getD (0 + Int.toNat (j : Int)) int.dft = (z : Int) := by
        rw [Nat.zero_add, Int.toNat_natCast, List.getD, List.getElem?_eq_getElem (by omega)]
        show (natL fst)[j]'(by omega) = (z : Int)
        simp [natL, hz]
      have htk : fst.take (j + 1) = fst.take j ++ [z] := by rw [List.take_add_one, List.getElem?_eq_getElem hjf, hz]; rfl
      obtain ⟨f4, hf4⟩ : ∃ f4, Uf.cp f3 z = f4 := ⟨_, rfl⟩
      have hD4 : Dn ks f4 := by rw [← hf4]; exact cp_dn hD3 z
      have hR4 : Uf.R f4 = Rt := by rw [← hR3, ← hf4]; funext y; exact Uf.cp_R hD3.le z y
      have hf44 : Uf.cp f4 z = f4 := by
        rw [← hf4]
        funext y
        rw [Uf.cp_cp hD3.le]
        unfold Uf.cp
        by_cases h : Uf.Pth f3 z y <;> simp [h]
      (repeat' (first | exact trivial | exact fun h => h | refine And.intro ?_ ?_ | (intro hb; try simp at hb) | omega | exact rfl | exact Nat.le_refl _ | (show _ + 1 ≤ 4294967296; omega) | (dsimp only; omega) | (show (_ : Int) ≤ (_ : Int); omega) | (show _ < List.length _; simp only [List.length_set, List.length_append, List.length_take]; omega) | (show wantB _ _ = true; simp <;> omega) | (show (_ : Bool) = _; simp_all; done) | (exfalso; omega) | refine aRegion_auto (by decide +kernel) ?_ | fail))
      rw [ge]
      (repeat' (first | exact trivial | exact fun h => h | refine And.intro ?_ ?_ | (intro hb; try simp at hb) | omega | exact rfl | exact Nat.le_refl _ | (show _ + 1 ≤ 4294967296; omega) | (dsimp only; omega) | (show (_ : Int) ≤ (_ : Int); omega) | (show _ < List.length _; simp only [List.length_set, List.length_append, List.length_take]; omega) | (show wantB _ _ = true; simp <;> omega) | (show (_ : Bool) = _; simp_all; done) | (exfalso; omega) | refine aRegion_auto (by decide +kernel) ?_ | fail))
      let Rk : AO := .row int [(z : Int)]
      let M : (Nat → Nat) → List AO → List AO := fun g X => jnA bA bm clk ks g (grO bm2 clk2 Gs Rt (fst.take j) :: .row int (natL fst) :: X)
      have hlt : ∀ e ∈ Gs, e.2.2 < T.length := fun e he => hG.lt he
      have hRk : ∀ y ∈ ks.map (·.2), Rt y < 16384 := fun y hy => by
        have h1 := R_key hD3 hy
        rw [hR3] at h1
        obtain ⟨e, he, h2⟩ := List.mem_map.1 h1
        rw [← h2]; exact hKy.small e he
      have hg16 : ∀ e ∈ Gs, e.2.1 < 16384 := fun e he => by
        obtain ⟨y, h1, h2⟩ := (hG.all e.2.1).1 (List.mem_map.2 ⟨e, he, rfl⟩)
        rw [← h2]; exact hRk y (hfm y (List.mem_of_mem_take h1))
      have hz16 := hRk z hzm
      have hMok : ∀ (g : Nat → Nat) (X : List AO), T.length ≤ X.length → (∀ o ∈ X, o.vals = []) → ∀ n, X.length + 6 ≤ n → OkA n (M g X) := fun g X h1 h2 n h3 => by
        refine jnA_ok (by omega) fun o ho => ?_
        simp only [List.mem_cons] at ho
        rcases ho with rfl | rfl | ho
        · exact grO_ok fun e he => by have := hlt e he; omega
        · rfl
        · rw [h2 o ho]; rfl
      have hMl : ∀ (g : Nat → Nat) (X : List AO), (M g X).length = X.length + 6 := fun g X => rfl
      have hroom : T.length ≤ (T ++ [AO.room]).length ∧ ∀ o ∈ T ++ [AO.room], o.vals = [] := ⟨by simp, fun o ho => by
        rcases List.mem_append.1 ho with h | h
        · exact hG.flat o h
        · simp at h; subst h; rfl⟩
      have hrk : T.length ≤ (T ++ [Rk]).length ∧ ∀ o ∈ T ++ [Rk], o.vals = [] := ⟨by simp, fun o ho => by
        rcases List.mem_append.1 ho with h | h
        · exact hG.flat o h
        · simp at h; subst h; rfl⟩
      have rt : ∀ (g g2 : Nat → Nat) (X : List AO), Dn ks g → Uf.cp g z = g2 → Uf.R g = Rt → (T.length ≤ X.length ∧ ∀ o ∈ X, o.vals = []) →
          ACall Tryz.prog (G8 E) 62 [.fz int z, .ptr 2 0, .ptr 3 0] (M g X) (fun v A' => forceV v fun v' => forceA A' fun A'' => View (M g X).length v' A'' (.fz int (Rt z : Nat)) (M g2 X)) := fun g g2 X d1 d2 d3 d4 => by
        refine root_lend _ bA bm clk ks hKy (grO bm2 clk2 Gs Rt (fst.take j) :: .row int (natL fst) :: X) z g d1 hzm _ (force_of _ _ _ ?_)
        rw [d2, d3]
        exact view_id (A := M g2 X) (Nat.le_of_eq (by rw [hMl, hMl])) rfl (hMok g2 X d4.1 d4.2 _ (Nat.le_of_eq (hMl g2 X).symm))
      have hbs : ∀ g : Nat → Nat, forceV (.ref (M g (T ++ [.room])).length 0 1) fun v' => forceA (M g (T ++ [.room]) ++ [Rk]) fun A' => View (M g (T ++ [.room])).length v' A' (.ref (T.length + 6) 0 1) (M g (T ++ [Rk])) := fun g => by
        refine force_of _ _ _ ?_
        have e1 : (M g (T ++ [.room])).length = (M g T).length + 1 := by rw [hMl, hMl, List.length_append, List.length_singleton]
        have e2 : M g (T ++ [.room]) ++ [Rk] = M g T ++ [.room, Rk] := by
          show (M g T ++ [.room]) ++ [Rk] = _
          exact List.append_assoc _ _ _
        rw [e1, e2]
        exact view_room (B := M g T) (Nat.le_refl _) (hMok g T (Nat.le_refl _) hG.flat _ (Nat.le_of_eq (hMl g T).symm))
      by_cases hex : Rt z ∈ Gs.map (·.2.1)
      · obtain ⟨e, he, hee⟩ := List.mem_map.1 hex
        obtain ⟨q, hq⟩ := List.getElem?_of_mem he
        obtain ⟨l, hl0⟩ : ∃ l, Gr.mem Rt (Rt z) (fst.take j) = l := ⟨_, rfl⟩
        have hrow := hG.row e he
        have hmore := hG.more hq hee (o := Rk) rfl
        rw [hee, hl0] at hrow
        rw [hl0] at hmore
        let Rn : AO := .row int (natL (l ++ [z]))
        have hgk : ∀ p ∈ Gs.map (fun e => (e.1, kv1 (e.2.1 : Int))), ∃ l, keyOf Tryz.prog 3 p.2 = some l := fun p hp => by
          obtain ⟨e', he', rfl⟩ := List.mem_map.1 hp
          have := hg16 e' he'
          exact key1_ok (by omega)
        have hidx : ∀ (m : Nat) (y : Nat × Value), (Gs.map fun e => (e.1, kv1 (e.2.1 : Int)))[m]? = some y → y.2 = kv1 (Rt z : Int) → m = q := fun m y hm hy => by
          rw [List.getElem?_map] at hm
          cases hS : Gs[m]? with
          | none => rw [hS] at hm; cases hm
          | some e' =>
            rw [hS] at hm
            simp only [Option.map_some, Option.some.injEq] at hm
            subst hm
            have hk' : e'.2.1 = Rt z := kv1_nat.1 hy
            have h1 : (Gs.map (·.2.1))[m]? = (Gs.map (·.2.1))[q]? := by rw [List.getElem?_map, List.getElem?_map, hS, hq]; simp [hk', hee]
            exact (List.getElem?_inj (by simpa using get_lt hS) hG.nd).1 h1
        have hll : l.length ≤ 80 := by
          rw [← hl0]
          have h1 := List.length_filter_le (fun z' => decide (Rt z' = Rt z)) (fst.take j)
          have h2 := List.length_take_le j fst
          unfold Gr.mem
          omega
        have hte := hlt e he
        have hM7 : (M f4 (T ++ [Rk])).length = T.length + 7 := by rw [hMl, List.length_append, List.length_singleton]
        have hXl : (T.set e.2.2 .dead ++ [Rk, Rn]).length = T.length + 2 := by simp
        have happ : aAppend tab (M f4 (T ++ [Rk])) 30 30 (.ref (e.2.2 + 6) 0 l.length) (.ref (T.length + 6) 0 1) =
            ⟨andC (some (0 + 1 ≤ List.length [(z : Int)])) (some (l.length ≤ (natL l).length ∧ l.length + (List.take 1 (List.drop 0 [(z : Int)])).length ≤ 4294967296)), .ref (M f4 (T ++ [Rk])).length 0 (l.length + 1), (M f4 (T ++ [Rk])).set (e.2.2 + 6) .dead ++ [.row int (List.take l.length (natL l) ++ [(z : Int)])]⟩ :=
          aAppend_ref (e := int) (D := tab) (el := 3) (xs := (natL l : List Int)) (ys := [(z : Int)]) rfl rfl rfl (aSrc_ref (e := int) (ys := [(z : Int)]) (by
            show (T ++ [Rk])[T.length]? = some (.row int [(z : Int)])
            rw [List.getElem?_append_right (Nat.le_refl _)]; simp [Rk])) (by
            show (T ++ [Rk])[e.2.2]? = some (.row int (natL l))
            rw [List.getElem?_append_left hte]; exact hrow)
        have hMset : (M f4 (T ++ [Rk])).set (e.2.2 + 6) .dead ++ [.row int (List.take l.length (natL l) ++ [(z : Int)])] = M f4 (T.set e.2.2 .dead ++ [Rk, Rn]) := by
          have e1 : List.take l.length (natL l) ++ [(z : Int)] = natL (l ++ [z]) := by
            rw [List.take_of_length_le (by rw [natL_len]; exact Nat.le_refl _), natL_add]; rfl
          rw [e1]
          have e2 : (T ++ [Rk]).set e.2.2 .dead ++ [Rn] = T.set e.2.2 .dead ++ [Rk, Rn] := by
            rw [List.set_append_left _ _ hte, List.append_assoc]; rfl
          exact congrArg (M f4) e2
        have hval : ∀ (m : Nat) (y : Nat × Value) (av : AV), (Gs.map fun e => (e.1, kv1 (e.2.1 : Int)))[m]? = some y → y.2 = kv1 (Rt z : Int) → (Gs.map fun e => AV.ref (e.2.2 + 6) 0 (Gr.mem Rt e.2.1 (fst.take j)).length)[m]? = some av → av = .ref (e.2.2 + 6) 0 l.length := fun m y av hm hy hav => by
          rw [List.getElem?_map] at hm hav
          cases hS : Gs[m]? with
          | none => rw [hS] at hm; cases hm
          | some e' =>
            rw [hS] at hm hav
            simp only [Option.map_some, Option.some.injEq] at hm hav
            subst hm
            have hk' : e'.2.1 = Rt z := kv1_nat.1 hy
            have hmq : m = q := by
              have h1 : (Gs.map (·.2.1))[m]? = (Gs.map (·.2.1))[q]? := by rw [List.getElem?_map, List.getElem?_map, hS, hq]; simp [hk', hee]
              exact (List.getElem?_inj (by simpa using get_lt hS) hG.nd).1 h1
            subst hmq
            rw [hS] at hq
            simp only [Option.some.injEq] at hq
            subst hq
            rw [← hav, hee, hl0]
        have hvok : ∀ X : List AO, T.length ≤ X.length → (AV.ref (e.2.2 + 6) 0 l.length).okB (X.length + 6) = true := fun X h => by
          have := hlt e he
          show Nat.blt (e.2.2 + 6) (X.length + 6) = true
          simpa using (by omega : e.2.2 + 6 < X.length + 6)
        let M2 : List AO := jnA bA bm clk ks f4 (grO bm2 clk2 (Gs.set q (e.1, e.2.1, T.length + 1)) Rt (fst.take (j + 1)) :: .row int (natL fst) :: (T.set e.2.2 .dead ++ [Rk, Rn]))
        refine aRegion_open 1 (by decide +kernel) ?_
        (repeat' (first | exact trivial | exact fun h => h | refine And.intro ?_ ?_ | (intro hb; try simp at hb) | omega | exact rfl | exact Nat.le_refl _ | (show _ + 1 ≤ 4294967296; omega) | (dsimp only; omega) | (show (_ : Int) ≤ (_ : Int); omega) | (show _ < List.length _; simp only [List.length_set, List.length_append, List.length_take]; omega) | (show wantB _ _ = true; simp <;> omega) | (show (_ : Bool) = _; simp_all; done) | (exfalso; omega) | refine aRegion_auto (by decide +kernel) ?_ | fail))
        refine eff_is (.fz int (Rt z : Nat)) (M f4 (T ++ [.room])) ?_
        (repeat' (first | exact trivial | exact fun h => h | refine And.intro ?_ ?_ | (intro hb; try simp at hb) | omega | exact rfl | exact Nat.le_refl _ | (show _ + 1 ≤ 4294967296; omega) | (dsimp only; omega) | (show (_ : Int) ≤ (_ : Int); omega) | (show _ < List.length _; simp only [List.length_set, List.length_append, List.length_take]; omega) | (show wantB _ _ = true; simp <;> omega) | (show (_ : Bool) = _; simp_all; done) | (exfalso; omega) | refine aRegion_auto (by decide +kernel) ?_ | fail))
        refine eff_is (.fz int (Rt z : Nat)) (M f4 (T ++ [.room])) ?_
        (repeat' (first | exact trivial | exact fun h => h | refine And.intro ?_ ?_ | (intro hb; try simp at hb) | omega | exact rfl | exact Nat.le_refl _ | (show _ + 1 ≤ 4294967296; omega) | (dsimp only; omega) | (show (_ : Int) ≤ (_ : Int); omega) | (show _ < List.length _; simp only [List.length_set, List.length_append, List.length_take]; omega) | (show wantB _ _ = true; simp <;> omega) | (show (_ : Bool) = _; simp_all; done) | (exfalso; omega) | refine aRegion_auto (by decide +kernel) ?_ | fail))
        refine eff_is (.ref (e.2.2 + 6) 0 l.length) (M f4 (T ++ [.room])) ?_
        (repeat' (first | exact trivial | exact fun h => h | refine And.intro ?_ ?_ | (intro hb; try simp at hb) | omega | exact rfl | exact Nat.le_refl _ | (show _ + 1 ≤ 4294967296; omega) | (dsimp only; omega) | (show (_ : Int) ≤ (_ : Int); omega) | (show _ < List.length _; simp only [List.length_set, List.length_append, List.length_take]; omega) | (show wantB _ _ = true; simp <;> omega) | (show (_ : Bool) = _; simp_all; done) | (exfalso; omega) | refine aRegion_auto (by decide +kernel) ?_ | fail))
        refine eff_is (.ref (T.length + 6) 0 1) (M f4 (T ++ [Rk])) ?_
        (repeat' (first | exact trivial | exact fun h => h | refine And.intro ?_ ?_ | (intro hb; try simp at hb) | omega | exact rfl | exact Nat.le_refl _ | (show _ + 1 ≤ 4294967296; omega) | (dsimp only; omega) | (show (_ : Int) ≤ (_ : Int); omega) | (show _ < List.length _; simp only [List.length_set, List.length_append, List.length_take]; omega) | (show wantB _ _ = true; simp <;> omega) | (show (_ : Bool) = _; simp_all; done) | (exfalso; omega) | refine aRegion_auto (by decide +kernel) ?_ | fail))
        refine eff_is (.ref (T.length + 7) 0 (l.length + 1)) (M f4 (T.set e.2.2 .dead ++ [Rk, Rn])) ?_
        (repeat' (first | exact trivial | exact fun h => h | refine And.intro ?_ ?_ | (intro hb; try simp at hb) | omega | exact rfl | exact Nat.le_refl _ | (show _ + 1 ≤ 4294967296; omega) | (dsimp only; omega) | (show (_ : Int) ≤ (_ : Int); omega) | (show _ < List.length _; simp only [List.length_set, List.length_append, List.length_take]; omega) | (show wantB _ _ = true; simp <;> omega) | (show (_ : Bool) = _; simp_all; done) | (exfalso; omega) | refine aRegion_auto (by decide +kernel) ?_ | fail))
        refine eff_is .unk M2 ?_
        refine ⟨[(0, M f3 (T ++ [.room])), (8, M f4 (T ++ [.room])), (1024, M f3 (T ++ [Rk])), (136, M f4 (T ++ [.room])), (1032, M f4 (T ++ [Rk])), (392, M f4 (T ++ [.room])), (1160, M f4 (T ++ [Rk])), (1416, M f4 (T ++ [Rk])), (3464, M f4 (T.set e.2.2 .dead ++ [Rk, Rn])), (7560, M2)], rfl, rfl, ?_, ?_⟩
        · (repeat' (first | refine And.intro ?_ ?_ | exact trivial | exact rfl | omega))
          · exact rt f3 f4 (T ++ [.room]) hD3 hf4 hR3 hroom
          · exact hbs f3
          · exact rt f4 f4 (T ++ [.room]) hD4 hf44 hR4 hroom
          · exact hbs f4
          · exact rt f3 f4 (T ++ [Rk]) hD3 hf4 hR3 hrk
          · refine aact_lookup (tok := 4) (off := 0) (bm := bm2) (clock := clk2) (ks := Gs.map fun e => (e.1, kv1 (e.2.1 : Int))) (vs := Gs.map fun e => .ref (e.2.2 + 6) 0 (Gr.mem Rt e.2.1 (fst.take j)).length) (kv := kv1 (Rt z : Int)) ?_ ?_ Tryz.underlying128 keyed1 (fun c v h => ?_) (key1_ok (by omega)) hgk zero_sl (fun hno => ?_) (fun m y av hm hy hav => ?_)
            · rfl
            · rfl
            · exact rel_kv1 c v h
            · exact (hno _ (List.mem_map.2 ⟨e, he, rfl⟩) (by rw [hee])).elim
            · rw [hval m y av hm hy hav]
              exact force_of _ _ _ (view_id (A := M f4 (T ++ [.room])) (Nat.le_refl _) (hvok _ hroom.1) (hMok f4 _ hroom.1 hroom.2 _ (Nat.le_refl _)))
          · exact hbs f4
          · exact rt f4 f4 (T ++ [Rk]) hD4 hf44 hR4 hrk
          · exact hbs f4
          · refine aact_lookup (tok := 4) (off := 0) (bm := bm2) (clock := clk2) (ks := Gs.map fun e => (e.1, kv1 (e.2.1 : Int))) (vs := Gs.map fun e => .ref (e.2.2 + 6) 0 (Gr.mem Rt e.2.1 (fst.take j)).length) (kv := kv1 (Rt z : Int)) ?_ ?_ Tryz.underlying128 keyed1 (fun c v h => ?_) (key1_ok (by omega)) hgk zero_sl (fun hno => ?_) (fun m y av hm hy hav => ?_)
            · rfl
            · rfl
            · exact rel_kv1 c v h
            · exact (hno _ (List.mem_map.2 ⟨e, he, rfl⟩) (by rw [hee])).elim
            · rw [hval m y av hm hy hav]
              exact force_of _ _ _ (view_id (A := M f4 (T ++ [Rk])) (Nat.le_refl _) (hvok _ hrk.1) (hMok f4 _ hrk.1 hrk.2 _ (Nat.le_refl _)))
          · refine run_app happ (runE_some ⟨by simp, by rw [natL_len]; exact Nat.le_refl _, by show l.length + 1 ≤ 4294967296; omega⟩ ?_)
            rw [hM7, hMset]
            exact view_id (A := M f4 (T.set e.2.2 .dead ++ [Rk, Rn])) (by rw [hMl, hXl]; omega) (by rw [hMl, hXl]; show Nat.blt (T.length + 7) (T.length + 2 + 6) = true; simp) (hMok f4 _ (by rw [hXl]; omega) hmore.flat _ (Nat.le_refl _))
          · refine aact_store (tok := 4) (off := 0) (bm := bm2) (clock := clk2) (ks := Gs.map fun e => (e.1, kv1 (e.2.1 : Int))) (vs := Gs.map fun e => .ref (e.2.2 + 6) 0 (Gr.mem Rt e.2.1 (fst.take j)).length) (kv := kv1 (Rt z : Int)) ?_ ?_ Tryz.underlying128 keyed1 (fun c v h => ?_) (key1_ok (by omega)) hgk (fun hno => ?_) (fun m y hm hy => ?_)
            · rfl
            · rfl
            · exact rel_kv1 c v h
            · exact (hno _ (List.mem_map.2 ⟨e, he, rfl⟩) (by rw [hee])).elim
            · refine force_of _ _ _ ?_
              have hmq := hidx m y hm hy
              rw [hmq]
              have hgs := gr_set (bm := bm2) (clk := clk2) (pre := fst.take j) hG.nd hq hee (T.length + 1)
              rw [hl0, ← htk] at hgs
              have hM2 : (M f4 (T.set e.2.2 .dead ++ [Rk, Rn])).set 4 (.mapo (.map bm2 clk2 (Gs.map fun e => (e.1, kv1 (e.2.1 : Int)))) ((Gs.map fun e => AV.ref (e.2.2 + 6) 0 (Gr.mem Rt e.2.1 (fst.take j)).length).set q (.ref (T.length + 1 + 6) 0 (l.length + 1)))) = M2 :=
                congrArg (fun g => jnA bA bm clk ks f4 (g :: .row int (natL fst) :: (T.set e.2.2 .dead ++ [Rk, Rn]))) hgs
              have hok2 : OkA M2.length M2 := by
                refine jnA_ok (by show 6 ≤ _ + 6; omega) fun o ho => ?_
                simp only [List.mem_cons (a := o)] at ho
                rcases ho with rfl | rfl | ho
                · exact grO_ok fun e' he' => by
                    have := hmore.lt he'
                    exact Nat.add_lt_add_right this 6
                · rfl
                · rw [hmore.flat o ho]; rfl
              exact (congrArg (fun X => View (M f4 (T.set e.2.2 .dead ++ [Rk, Rn])).length .unk X .unk M2) hM2).mpr (view_id (A := M2) (Nat.le_refl _) rfl hok2)
        · (repeat' (first | exact trivial | exact fun h => h | refine And.intro ?_ ?_ | (intro hb; try simp at hb) | omega | exact rfl | exact Nat.le_refl _ | (show _ + 1 ≤ 4294967296; omega) | (dsimp only; omega) | (show (_ : Int) ≤ (_ : Int); omega) | (show _ < List.length _; simp only [List.length_set, List.length_append, List.length_take]; omega) | (show wantB _ _ = true; simp <;> omega) | (show (_ : Bool) = _; simp_all; done) | (exfalso; omega) | refine aRegion_auto (by decide +kernel) ?_ | fail))
          refine ⟨(j + 1, f4, clk2, Gs.set q (e.1, e.2.1, T.length + 1), T.set e.2.2 .dead ++ [Rk, Rn]), ⟨by show j + 1 ≤ fst.length; omega, hD4, hR4, by show Gr.GI Rt (fst.take (j + 1)) _ _; rw [htk]; exact hmore⟩, by show fst.length - (j + 1) < fst.length - j; omega, Ent.sub rfl ?_⟩
          (repeat' (first | exact trivial | exact rfl | refine And.intro ?_ ?_))
      · have hnil : Gr.mem Rt (Rt z) (fst.take j) = [] := by
          unfold Gr.mem
          rw [List.filter_eq_nil_iff]
          intro y hy
          simp only [decide_eq_true_eq]
          exact fun h => hex ((hG.all (Rt z)).2 ⟨y, hy, h⟩)
        have hmore := hG.new hex clk2 (o := Rk) rfl
        let Rn : AO := .row int (natL [z])
        let M2 : List AO := jnA bA bm clk ks f4 (grO bm2 (clk2 + 1) (Gs ++ [(clk2, Rt z, T.length + 1)]) Rt (fst.take (j + 1)) :: .row int (natL fst) :: (T ++ [Rk, Rn]))
        have hgk : ∀ p ∈ Gs.map (fun e => (e.1, kv1 (e.2.1 : Int))), ∃ l, keyOf Tryz.prog 3 p.2 = some l := fun p hp => by
          obtain ⟨e', he', rfl⟩ := List.mem_map.1 hp
          have := hg16 e' he'
          exact key1_ok (by omega)
        have hnoy : ∀ (m : Nat) (y : Nat × Value), (Gs.map fun e => (e.1, kv1 (e.2.1 : Int)))[m]? = some y → y.2 = kv1 (Rt z : Int) → False := fun m y hm hy => by
          obtain ⟨e', he', rfl⟩ := List.mem_map.1 (List.mem_of_getElem? hm)
          exact hex (by rw [← kv1_nat.1 hy]; exact List.mem_map.2 ⟨e', he', rfl⟩)
        have hM7 : (M f4 (T ++ [Rk])).length = T.length + 7 := by rw [hMl, List.length_append, List.length_singleton]
        have hXl : (T ++ [Rk, Rn]).length = T.length + 2 := by simp
        have happ : aAppend tab (M f4 (T ++ [Rk])) 30 30 .nilSl (.ref (T.length + 6) 0 1) =
            ⟨andC (some (0 + 1 ≤ List.length [(z : Int)])) (some ((List.take 1 (List.drop 0 [(z : Int)])).length ≤ 4294967296)), .ref (M f4 (T ++ [Rk])).length 0 1, M f4 (T ++ [Rk]) ++ [.row int [(z : Int)]]⟩ :=
          aAppend_nil (e := int) (D := tab) (el := 3) (ys := [(z : Int)]) rfl rfl rfl (aSrc_ref (e := int) (ys := [(z : Int)]) (by
            show (T ++ [Rk])[T.length]? = some (.row int [(z : Int)])
            rw [List.getElem?_append_right (Nat.le_refl _)]; simp [Rk]))
        have hMset : M f4 (T ++ [Rk]) ++ [.row int [(z : Int)]] = M f4 (T ++ [Rk, Rn]) := by
          have e2 : (T ++ [Rk]) ++ [Rn] = T ++ [Rk, Rn] := List.append_assoc _ _ _
          exact congrArg (M f4) e2
        refine aRegion_open 1 (by decide +kernel) ?_
        (repeat' (first | exact trivial | exact fun h => h | refine And.intro ?_ ?_ | (intro hb; try simp at hb) | omega | exact rfl | exact Nat.le_refl _ | (show _ + 1 ≤ 4294967296; omega) | (dsimp only; omega) | (show (_ : Int) ≤ (_ : Int); omega) | (show _ < List.length _; simp only [List.length_set, List.length_append, List.length_take]; omega) | (show wantB _ _ = true; simp <;> omega) | (show (_ : Bool) = _; simp_all; done) | (exfalso; omega) | refine aRegion_auto (by decide +kernel) ?_ | fail))
        refine eff_is (.fz int (Rt z : Nat)) (M f4 (T ++ [.room])) ?_
        (repeat' (first | exact trivial | exact fun h => h | refine And.intro ?_ ?_ | (intro hb; try simp at hb) | omega | exact rfl | exact Nat.le_refl _ | (show _ + 1 ≤ 4294967296; omega) | (dsimp only; omega) | (show (_ : Int) ≤ (_ : Int); omega) | (show _ < List.length _; simp only [List.length_set, List.length_append, List.length_take]; omega) | (show wantB _ _ = true; simp <;> omega) | (show (_ : Bool) = _; simp_all; done) | (exfalso; omega) | refine aRegion_auto (by decide +kernel) ?_ | fail))
        refine eff_is (.fz int (Rt z : Nat)) (M f4 (T ++ [.room])) ?_
        (repeat' (first | exact trivial | exact fun h => h | refine And.intro ?_ ?_ | (intro hb; try simp at hb) | omega | exact rfl | exact Nat.le_refl _ | (show _ + 1 ≤ 4294967296; omega) | (dsimp only; omega) | (show (_ : Int) ≤ (_ : Int); omega) | (show _ < List.length _; simp only [List.length_set, List.length_append, List.length_take]; omega) | (show wantB _ _ = true; simp <;> omega) | (show (_ : Bool) = _; simp_all; done) | (exfalso; omega) | refine aRegion_auto (by decide +kernel) ?_ | fail))
        refine eff_is .nilSl (M f4 (T ++ [.room])) ?_
        (repeat' (first | exact trivial | exact fun h => h | refine And.intro ?_ ?_ | (intro hb; try simp at hb) | omega | exact rfl | exact Nat.le_refl _ | (show _ + 1 ≤ 4294967296; omega) | (dsimp only; omega) | (show (_ : Int) ≤ (_ : Int); omega) | (show _ < List.length _; simp only [List.length_set, List.length_append, List.length_take]; omega) | (show wantB _ _ = true; simp <;> omega) | (show (_ : Bool) = _; simp_all; done) | (exfalso; omega) | refine aRegion_auto (by decide +kernel) ?_ | fail))
        refine eff_is (.ref (T.length + 6) 0 1) (M f4 (T ++ [Rk])) ?_
        (repeat' (first | exact trivial | exact fun h => h | refine And.intro ?_ ?_ | (intro hb; try simp at hb) | omega | exact rfl | exact Nat.le_refl _ | (show _ + 1 ≤ 4294967296; omega) | (dsimp only; omega) | (show (_ : Int) ≤ (_ : Int); omega) | (show _ < List.length _; simp only [List.length_set, List.length_append, List.length_take]; omega) | (show wantB _ _ = true; simp <;> omega) | (show (_ : Bool) = _; simp_all; done) | (exfalso; omega) | refine aRegion_auto (by decide +kernel) ?_ | fail))
        refine eff_is (.ref (T.length + 7) 0 1) (M f4 (T ++ [Rk, Rn])) ?_
        (repeat' (first | exact trivial | exact fun h => h | refine And.intro ?_ ?_ | (intro hb; try simp at hb) | omega | exact rfl | exact Nat.le_refl _ | (show _ + 1 ≤ 4294967296; omega) | (dsimp only; omega) | (show (_ : Int) ≤ (_ : Int); omega) | (show _ < List.length _; simp only [List.length_set, List.length_append, List.length_take]; omega) | (show wantB _ _ = true; simp <;> omega) | (show (_ : Bool) = _; simp_all; done) | (exfalso; omega) | refine aRegion_auto (by decide +kernel) ?_ | fail))
        refine eff_is .unk M2 ?_
        refine ⟨[(0, M f3 (T ++ [.room])), (8, M f4 (T ++ [.room])), (1024, M f3 (T ++ [Rk])), (136, M f4 (T ++ [.room])), (1032, M f4 (T ++ [Rk])), (392, M f4 (T ++ [.room])), (1160, M f4 (T ++ [Rk])), (1416, M f4 (T ++ [Rk])), (3464, M f4 (T ++ [Rk, Rn])), (7560, M2)], rfl, rfl, ?_, ?_⟩
        · (repeat' (first | refine And.intro ?_ ?_ | exact trivial | exact rfl | omega))
          · exact rt f3 f4 (T ++ [.room]) hD3 hf4 hR3 hroom
          · exact hbs f3
          · exact rt f4 f4 (T ++ [.room]) hD4 hf44 hR4 hroom
          · exact hbs f4
          · exact rt f3 f4 (T ++ [Rk]) hD3 hf4 hR3 hrk
          · refine aact_lookup (tok := 4) (off := 0) (bm := bm2) (clock := clk2) (ks := Gs.map fun e => (e.1, kv1 (e.2.1 : Int))) (vs := Gs.map fun e => .ref (e.2.2 + 6) 0 (Gr.mem Rt e.2.1 (fst.take j)).length) (kv := kv1 (Rt z : Int)) ?_ ?_ Tryz.underlying128 keyed1 (fun c v h => ?_) (key1_ok (by omega)) hgk zero_sl (fun hno => ?_) (fun m y av hm hy hav => ?_)
            · rfl
            · rfl
            · exact rel_kv1 c v h
            · exact force_of _ _ _ (view_id (A := M f4 (T ++ [.room])) (Nat.le_refl _) rfl (hMok f4 _ hroom.1 hroom.2 _ (Nat.le_refl _)))
            · exact (hnoy m y hm hy).elim
          · exact hbs f4
          · exact rt f4 f4 (T ++ [Rk]) hD4 hf44 hR4 hrk
          · exact hbs f4
          · refine aact_lookup (tok := 4) (off := 0) (bm := bm2) (clock := clk2) (ks := Gs.map fun e => (e.1, kv1 (e.2.1 : Int))) (vs := Gs.map fun e => .ref (e.2.2 + 6) 0 (Gr.mem Rt e.2.1 (fst.take j)).length) (kv := kv1 (Rt z : Int)) ?_ ?_ Tryz.underlying128 keyed1 (fun c v h => ?_) (key1_ok (by omega)) hgk zero_sl (fun hno => ?_) (fun m y av hm hy hav => ?_)
            · rfl
            · rfl
            · exact rel_kv1 c v h
            · exact force_of _ _ _ (view_id (A := M f4 (T ++ [Rk])) (Nat.le_refl _) rfl (hMok f4 _ hrk.1 hrk.2 _ (Nat.le_refl _)))
            · exact (hnoy m y hm hy).elim
          · refine run_app happ (runE_some ⟨by simp, by simp⟩ ?_)
            rw [hM7, hMset]
            exact view_id (A := M f4 (T ++ [Rk, Rn])) (by rw [hMl, hXl]; omega) (by rw [hMl, hXl]; show Nat.blt (T.length + 7) (T.length + 2 + 6) = true; simp) (hMok f4 _ (by rw [hXl]; omega) hmore.flat _ (Nat.le_refl _))
          · refine aact_store (tok := 4) (off := 0) (bm := bm2) (clock := clk2) (ks := Gs.map fun e => (e.1, kv1 (e.2.1 : Int))) (vs := Gs.map fun e => .ref (e.2.2 + 6) 0 (Gr.mem Rt e.2.1 (fst.take j)).length) (kv := kv1 (Rt z : Int)) ?_ ?_ Tryz.underlying128 keyed1 (fun c v h => ?_) (key1_ok (by omega)) hgk (fun hno => ?_) (fun m y hm hy => ?_)
            · rfl
            · rfl
            · exact rel_kv1 c v h
            · refine force_of _ _ _ ?_
              have hgs := gr_new (bm := bm2) (clk := clk2) (pre := fst.take j) hex hnil (T.length + 1)
              rw [← htk] at hgs
              have hM2 : (M f4 (T ++ [Rk, Rn])).set 4 (.mapo (.map bm2 (clk2 + 1) ((Gs.map fun e => (e.1, kv1 (e.2.1 : Int))) ++ [(clk2, kv1 (Rt z : Int))])) ((Gs.map fun e => AV.ref (e.2.2 + 6) 0 (Gr.mem Rt e.2.1 (fst.take j)).length) ++ [.ref (T.length + 1 + 6) 0 1])) = M2 :=
                congrArg (fun g => jnA bA bm clk ks f4 (g :: .row int (natL fst) :: (T ++ [Rk, Rn]))) hgs
              have hok2 : OkA M2.length M2 := by
                refine jnA_ok (by show 6 ≤ _ + 6; omega) fun o ho => ?_
                simp only [List.mem_cons (a := o)] at ho
                rcases ho with rfl | rfl | ho
                · exact grO_ok fun e' he' => by
                    have := hmore.lt he'
                    exact Nat.add_lt_add_right this 6
                · rfl
                · rw [hmore.flat o ho]; rfl
              exact (congrArg (fun X => View (M f4 (T ++ [Rk, Rn])).length .unk X .unk M2) hM2).mpr (view_id (A := M2) (Nat.le_refl _) rfl hok2)
            · exact (hnoy m y hm hy).elim
        · (repeat' (first | exact trivial | exact fun h => h | refine And.intro ?_ ?_ | (intro hb; try simp at hb) | omega | exact rfl | exact Nat.le_refl _ | (show _ + 1 ≤ 4294967296; omega) | (dsimp only; omega) | (show (_ : Int) ≤ (_ : Int); omega) | (show _ < List.length _; simp only [List.length_set, List.length_append, List.length_take]; omega) | (show wantB _ _ = true; simp <;> omega) | (show (_ : Bool) = _; simp_all; done) | (exfalso; omega) | refine aRegion_auto (by decide +kernel) ?_ | fail))
          refine ⟨(j + 1, f4, clk2 + 1, Gs ++ [(clk2, Rt z, T.length + 1)], T ++ [Rk, Rn]), ⟨by show j + 1 ≤ fst.length; omega, hD4, hR4, by show Gr.GI Rt (fst.take (j + 1)) _ _; rw [htk]; exact hmore⟩, by show fst.length - (j + 1) < fst.length - j; omega, Ent.sub rfl ?_⟩
          (repeat' (first | exact trivial | exact rfl | refine And.intro ?_ ?_))
    obtain rfl : j = fst.length := by omega
    rw [List.take_length] at hG ⊢
    have hK2 := hK fst hfs (fun y => by rw [hfp.mem_iff, hperm.mem_iff, hB.mem])
    rw [hf, hRt] at hK2
    (repeat' (first | exact trivial | exact fun h => h | refine And.intro ?_ ?_ | (intro hb; try simp at hb) | omega | exact rfl | exact Nat.le_refl _ | (show _ + 1 ≤ 4294967296; omega) | (dsimp only; omega) | (show (_ : Int) ≤ (_ : Int); omega) | (show _ < List.length _; simp only [List.length_set, List.length_append, List.length_take]; omega) | (show wantB _ _ = true; simp <;> omega) | (show (_ : Bool) = _; simp_all; done) | (exfalso; omega) | refine aRegion_auto (by decide +kernel) ?_ | fail))
    refine ⟨Nat × (Nat → Nat) × List AO, fun x => ⟨[(13, .ptr 3 0), (18, .ptr 4 0), (109, .ref 5 0 fst.length), (110, .fz int fst.length), (111, .fz int x.1), (23, .ref (x.2.2.length + 6) 0 (outL Rt fst x.1).length)], jnA bA bm clk ks x.2.1 (grO bm2 clk2 Gs Rt fst :: .row int (natL fst) :: (x.2.2 ++ [.row (.list int) (outL Rt fst x.1)]))⟩,
      fun x => x.1 ≤ fst.length ∧ Dn ks x.2.1 ∧ Uf.R x.2.1 = Rt ∧ T.length ≤ x.2.2.length ∧ (∀ o ∈ x.2.2, o.vals = []) ∧ ∀ e ∈ Gs, e.2.1 ∉ fst.take x.1 → x.2.2[e.2.2]? = some (.row int (natL (Gr.mem Rt e.2.1 fst))), fun x => fst.length - x.1, (0, f3, T), ⟨Nat.zero_le _, hD3, hR3, Nat.le_refl _, hG.flat, fun e he _ => hG.row e he⟩, (Ent.nil 23 (.list int) rfl).trans (Ent.sub ?_ ?_), ?_⟩
    · rfl
    · (repeat' (first | exact trivial | exact rfl | refine And.intro ?_ ?_))
    rintro ⟨j, f5, X⟩ ⟨hj5, hD5, hR5, hX1, hX2, hX3⟩
    have hj5 : j ≤ fst.length := hj5
    have hD5 : Dn ks f5 := hD5
    have hR5 : Uf.R f5 = Rt := hR5
    have hX1 : T.length ≤ X.length := hX1
    have hX2 : ∀ o ∈ X, o.vals = [] := hX2
    have hX3 : ∀ e ∈ Gs, e.2.1 ∉ fst.take j → X[e.2.2]? = some (.row int (natL (Gr.mem Rt e.2.1 fst))) := hX3
    have hol := outL_len Rt fst j
    obtain ⟨o, ho⟩ : ∃ o, outL Rt fst j = o := ⟨_, rfl⟩
    show awp _ _ _ ⟨[(13, .ptr 3 0), (18, .ptr 4 0), (109, .ref 5 0 fst.length), (110, .fz int fst.length), (111, .fz int j), (23, .ref (X.length + 6) 0 (outL Rt fst j).length)], jnA bA bm clk ks f5 (grO bm2 clk2 Gs Rt fst :: .row int (natL fst) :: (X ++ [.row (.list int) (outL Rt fst j)]))⟩
    rw [ho] at hol ⊢
    by_cases hjf : j < fst.length
    · obtain ⟨z, hz⟩ : ∃ z, fst[j] = z := ⟨_, rfl⟩
      have hzm : z ∈ ks.map (·.2) := hfm z (by rw [← hz]; exact List.getElem_mem _)
      have hz16 : z < 16384 := by
        obtain ⟨e, he, h2⟩ := List.mem_map.1 hzm
        rw [← h2]; exact hKy.small e he
      have ge : (natL fst).getD (0 + Int.toNat (j : Int)) int.dft = (z : Int) := by
        rw [Nat.zero_add, Int.toNat_natCast, List.getD, List.getElem?_eq_getElem (by omega)]
        show (natL fst)[j]'(by omega) = (z : Int)
        simp [natL, hz]
      have htk : fst.take (j + 1) = fst.take j ++ [z] := by rw [List.take_add_one, List.getElem?_eq_getElem hjf, hz]; rfl
      have hon := outL_next Rt fst hjf
      rw [hz, ho] at hon
      obtain ⟨f6, hf6⟩ : ∃ f6, Uf.cp f5 z = f6 := ⟨_, rfl⟩
      have hD6 : Dn ks f6 := by rw [← hf6]; exact cp_dn hD5 z
      have hR6 : Uf.R f6 = Rt := by rw [← hR5, ← hf6]; funext y; exact Uf.cp_R hD5.le z y
      let M : (Nat → Nat) → List AO → List AO := fun g X => jnA bA bm clk ks g (grO bm2 clk2 Gs Rt fst :: .row int (natL fst) :: X)
      (repeat' (first | exact trivial | exact fun h => h | refine And.intro ?_ ?_ | (intro hb; try simp at hb) | omega | exact rfl | exact Nat.le_refl _ | (show _ + 1 ≤ 4294967296; omega) | (dsimp only; omega) | (show (_ : Int) ≤ (_ : Int); omega) | (show _ < List.length _; simp only [List.length_set, List.length_append, List.length_take]; omega) | (show wantB _ _ = true; simp <;> omega) | (show (_ : Bool) = _; simp_all; done) | (exfalso; omega) | refine aRegion_auto (by decide +kernel) ?_ | fail))
      rw [ge]
      (repeat' (first | exact trivial | exact fun h => h | refine And.intro ?_ ?_ | (intro hb; try simp at hb) | omega | exact rfl | exact Nat.le_refl _ | (show _ + 1 ≤ 4294967296; omega) | (dsimp only; omega) | (show (_ : Int) ≤ (_ : Int); omega) | (show _ < List.length _; simp only [List.length_set, List.length_append, List.length_take]; omega) | (show wantB _ _ = true; simp <;> omega) | (show (_ : Bool) = _; simp_all; done) | (exfalso; omega) | refine aRegion_auto (by decide +kernel) ?_ | fail))
      refine root_lend _ bA bm clk ks hKy (grO bm2 clk2 Gs Rt fst :: .row int (natL fst) :: (X ++ [.row (.list int) o])) z f5 hD5 hzm _ ?_
      refine force_of _ _ _ ?_
      rw [hf6, hR5]
      by_cases hRz : Rt z = z
      · rw [if_pos hRz] at hon
        obtain ⟨l, hl0⟩ : ∃ l, Gr.mem Rt z fst = l := ⟨_, rfl⟩
        rw [hl0] at hon
        obtain ⟨e, he, hee⟩ := List.mem_map.1 ((hG.all z).2 ⟨z, by rw [← hz]; exact List.getElem_mem _, hRz⟩)
        obtain ⟨q, hq⟩ := List.getElem?_of_mem he
        have hzn : z ∉ fst.take j := fun h => by
          obtain ⟨i, hi, hiz⟩ := List.getElem_of_mem h
          rw [List.length_take] at hi
          rw [List.getElem_take] at hiz
          have := List.pairwise_iff_getElem.1 hfs i j (by omega) hjf (by omega)
          omega
        have hrow := hX3 e he (by rw [hee]; exact hzn)
        rw [hee, hl0] at hrow
        have hte := get_lt hrow
        have hg16 : ∀ e ∈ Gs, e.2.1 < 16384 := fun e he => by
          obtain ⟨y, h1, h2⟩ := (hG.all e.2.1).1 (List.mem_map.2 ⟨e, he, rfl⟩)
          have h3 := R_key hD5 (hfm y h1)
          rw [hR5] at h3
          obtain ⟨e', he', h4⟩ := List.mem_map.1 h3
          rw [← h2, ← h4]; exact hKy.small e' he'
        have hgk : ∀ p ∈ Gs.map (fun e => (e.1, kv1 (e.2.1 : Int))), ∃ l, keyOf Tryz.prog 3 p.2 = some l := fun p hp => by
          obtain ⟨e', he', rfl⟩ := List.mem_map.1 hp
          have := hg16 e' he'
          exact key1_ok (by omega)
        (repeat' (first | exact trivial | exact fun h => h | refine And.intro ?_ ?_ | (intro hb; try simp at hb) | omega | exact rfl | exact Nat.le_refl _ | (show _ + 1 ≤ 4294967296; omega) | (dsimp only; omega) | (show (_ : Int) ≤ (_ : Int); omega) | (show _ < List.length _; simp only [List.length_set, List.length_append, List.length_take]; omega) | (show wantB _ _ = true; simp <;> omega) | (show (_ : Bool) = _; simp_all; done) | (exfalso; omega) | refine aRegion_auto (by decide +kernel) ?_ | fail))
        refine aact_dat (e.2.2 + 6) int (natL l) l.length ?_
        refine aact_lookup (tok := 4) (off := 0) (bm := bm2) (clock := clk2) (ks := Gs.map fun e => (e.1, kv1 (e.2.1 : Int))) (vs := Gs.map fun e => .ref (e.2.2 + 6) 0 (Gr.mem Rt e.2.1 fst).length) (kv := kv1 (z : Int)) ?_ ?_ Tryz.underlying128 keyed1 (fun c v h => ?_) (key1_ok (by omega)) hgk zero_sl (fun hno => ?_) (fun m y av hm hy hav => ?_)
        · rfl
        · rfl
        · exact rel_kv1 c v h
        · exact (hno _ (List.mem_map.2 ⟨e, he, rfl⟩) (by rw [hee])).elim
        rw [List.getElem?_map] at hm hav
        have hmq : m = q := by
          cases hS : Gs[m]? with
          | none => rw [hS] at hm; cases hm
          | some e' =>
            rw [hS] at hm
            simp only [Option.map_some, Option.some.injEq] at hm
            subst hm
            have hk' : e'.2.1 = z := kv1_nat.1 hy
            have h1 : (Gs.map (·.2.1))[m]? = (Gs.map (·.2.1))[q]? := by rw [List.getElem?_map, List.getElem?_map, hS, hq]; simp [hk', hee]
            exact (List.getElem?_inj (by simpa using get_lt hS) hG.nd).1 h1
        rw [hmq, hq] at hav
        have hav : av = .ref (e.2.2 + 6) 0 l.length := by
          simp only [Option.map_some, Option.some.injEq] at hav
          rw [← hav, hee, hl0]
        let Ro : AO := .row (.list int) o
        let Rb : AO := .row (.list int) [natL l]
        let Rc : AO := .row (.list int) (o ++ [natL l])
        have hA1 : (jnA bA bm clk ks f6 (grO bm2 clk2 Gs Rt fst :: .row int (natL fst) :: (X ++ [.row (.list int) o]))).set (e.2.2 + 6) .dead = M f6 (X.set e.2.2 .dead ++ [Ro]) := congrArg (M f6) (List.set_append_left _ _ hte)
        have hMl : ∀ Y : List AO, (M f6 Y).length = Y.length + 6 := fun Y => rfl
        have hXl : (X.set e.2.2 .dead).length = X.length := List.length_set
        have hA2l : (M f6 (X.set e.2.2 .dead ++ [Ro])).length = X.length + 7 := by rw [hMl, List.length_append, List.length_singleton, hXl]
        have hA2 : M f6 (X.set e.2.2 .dead ++ [Ro]) ++ [Rb] = M f6 (X.set e.2.2 .dead ++ [Ro, Rb]) := congrArg (M f6) (List.append_assoc _ _ _)
        have hA3l : (M f6 (X.set e.2.2 .dead ++ [Ro, Rb])).length = X.length + 8 := by rw [hMl, List.length_append, hXl]; rfl
        have happ : aAppend tab (M f6 (X.set e.2.2 .dead ++ [Ro, Rb])) 57 57 (.ref (X.length + 6) 0 o.length) (.ref (X.length + 7) 0 1) =
            ⟨andC (some (0 + 1 ≤ List.length [natL l])) (some (o.length ≤ o.length ∧ o.length + (List.take 1 (List.drop 0 [natL l])).length ≤ 4294967296)), .ref (M f6 (X.set e.2.2 .dead ++ [Ro, Rb])).length 0 (o.length + 1), (M f6 (X.set e.2.2 .dead ++ [Ro, Rb])).set (X.length + 6) .dead ++ [.row (.list int) (List.take o.length o ++ [natL l])]⟩ :=
          aAppend_ref (e := .list int) (D := tab) (el := 30) (xs := (o : List (List Int))) (ys := [natL l]) rfl rfl rfl (aSrc_ref (e := .list int) (ys := [natL l]) (by
            show (X.set e.2.2 .dead ++ [Ro, Rb])[X.length + 1]? = some (.row (.list int) [natL l])
            rw [List.getElem?_append_right (by rw [hXl]; omega), hXl]; simp [Rb])) (by
            show (X.set e.2.2 .dead ++ [Ro, Rb])[X.length]? = some (.row (.list int) o)
            rw [List.getElem?_append_right (by rw [hXl]; exact Nat.le_refl _), hXl]; simp [Ro])
        have hA4 : (M f6 (X.set e.2.2 .dead ++ [Ro, Rb])).set (X.length + 6) .dead ++ [.row (.list int) (List.take o.length o ++ [natL l])] = M f6 ((X.set e.2.2 .dead ++ [.dead, Rb]) ++ [Rc]) := by
          rw [List.take_length]
          have e2 : (X.set e.2.2 .dead ++ [Ro, Rb]).set X.length .dead ++ [Rc] = (X.set e.2.2 .dead ++ [.dead, Rb]) ++ [Rc] := by
            rw [List.set_append_right _ _ (by rw [hXl]; exact Nat.le_refl _), hXl, Nat.sub_self]; rfl
          exact congrArg (M f6) e2
        have hln : (natL l).take l.length = natL l := List.take_of_length_le (by rw [natL_len]; exact Nat.le_refl _)
        refine ⟨hav, (List.getElem?_append_left hte).trans hrow, by rw [natL_len]; exact Nat.le_refl _, force_of _ _ _ ?_⟩
        rw [hln, hA1]
        have hbs : aBuildSlice tab (M f6 (X.set e.2.2 .dead ++ [Ro])) 57 1 [(0, .fz (.list int) (natL l))] = ⟨none, .ref (M f6 (X.set e.2.2 .dead ++ [Ro])).length 0 1, M f6 (X.set e.2.2 .dead ++ [Ro]) ++ [Rb]⟩ := rfl
        refine aOps_eff rfl rfl rfl (congrArg Kind.eff hbs) (runE_none ?_)
        rw [hA2, hA2l]
        refine aOps_eff rfl rfl rfl (congrArg Kind.eff happ) (runE_some ⟨by simp, Nat.le_refl _, by show o.length + 1 ≤ 4294967296; omega⟩ ?_)
        rw [hA4, hA3l]
        have hnl2 : (X.set e.2.2 .dead ++ [.dead, Rb]).length = X.length + 2 := by rw [List.length_append, hXl]; rfl
        (repeat' (first | exact trivial | exact fun h => h | refine And.intro ?_ ?_ | (intro hb; try simp at hb) | omega | exact rfl | exact Nat.le_refl _ | (show _ + 1 ≤ 4294967296; omega) | (dsimp only; omega) | (show (_ : Int) ≤ (_ : Int); omega) | (show _ < List.length _; simp only [List.length_set, List.length_append, List.length_take]; omega) | (show wantB _ _ = true; simp <;> omega) | (show (_ : Bool) = _; simp_all; done) | (exfalso; omega) | refine aRegion_auto (by decide +kernel) ?_ | fail))
        refine ⟨(j + 1, f6, X.set e.2.2 .dead ++ [.dead, Rb]), ⟨by show j + 1 ≤ fst.length; omega, hD6, hR6, ?_, ?_, ?_⟩, by show fst.length - (j + 1) < fst.length - j; omega, Ent.sub ?_ ?_⟩
        · show T.length ≤ (X.set e.2.2 .dead ++ [.dead, Rb]).length
          omega
        · intro o' ho'
          rcases List.mem_append.1 ho' with h | h
          · rcases List.mem_or_eq_of_mem_set h with h | h
            · exact hX2 o' h
            · rw [h]; rfl
          · simp only [List.mem_cons, List.not_mem_nil, or_false] at h
            rcases h with rfl | rfl <;> rfl
        · intro e' he' hne
          have hne : e'.2.1 ∉ fst.take (j + 1) := hne
          rw [htk, List.mem_append, List.mem_singleton] at hne
          have hr' := hX3 e' he' fun h => hne (.inl h)
          have htt : e'.2.2 ≠ e.2.2 := fun h => hne (.inr (by
            obtain ⟨q', hq'⟩ := List.getElem?_of_mem he'
            have h1 : (Gs.map (·.2.2))[q']? = (Gs.map (·.2.2))[q]? := by rw [List.getElem?_map, List.getElem?_map, hq', hq]; simp [h]
            have := (List.getElem?_inj (by simpa using get_lt hq') hG.tk).1 h1
            subst this
            rw [hq] at hq'
            simp only [Option.some.injEq] at hq'
            rw [← hq', hee]))
          show (X.set e.2.2 .dead ++ [.dead, Rb])[e'.2.2]? = _
          rw [List.getElem?_append_left (by rw [hXl]; exact get_lt hr'), List.getElem?_set_ne (Ne.symm htt)]
          exact hr'
        · exact congrArg (fun z => M f6 ((X.set e.2.2 .dead ++ [.dead, Rb]) ++ [.row (.list int) z])) hon.symm
        · (repeat' (first | exact trivial | exact rfl | refine And.intro ?_ ?_))
          exact (show AV.ref (X.length + 8) 0 (o.length + 1) = AV.ref ((X.set e.2.2 .dead ++ [.dead, Rb]).length + 6) 0 (outL Rt fst (j + 1)).length by rw [hnl2, hon, List.length_append]; rfl)
      · rw [if_neg hRz] at hon
        (repeat' (first | exact trivial | exact fun h => h | refine And.intro ?_ ?_ | (intro hb; try simp at hb) | omega | exact rfl | exact Nat.le_refl _ | (show _ + 1 ≤ 4294967296; omega) | (dsimp only; omega) | (show (_ : Int) ≤ (_ : Int); omega) | (show _ < List.length _; simp only [List.length_set, List.length_append, List.length_take]; omega) | (show wantB _ _ = true; simp <;> omega) | (show (_ : Bool) = _; simp_all; done) | (exfalso; omega) | refine aRegion_auto (by decide +kernel) ?_ | fail))
        refine ⟨(j + 1, f6, X), ⟨by show j + 1 ≤ fst.length; omega, hD6, hR6, hX1, hX2, fun e he h => hX3 e he fun h' => h (by rw [htk]; exact List.mem_append_left _ h')⟩, by show fst.length - (j + 1) < fst.length - j; omega, Ent.sub ?_ ?_⟩
        · exact congrArg (fun z => M f6 (X ++ [.row (.list int) z])) hon.symm
        · (repeat' (first | exact trivial | exact rfl | refine And.intro ?_ ?_))
          exact congrArg (fun z : List (List Int) => AV.ref (X.length + 6) 0 z.length) hon.symm
    obtain rfl : j = fst.length := by omega
    have hoo : o = (fst.filter fun k => decide (Rt k = k)).map fun k => natL (fst.filter fun z => decide (Rt z = k)) := by
      rw [← ho]
      unfold outL Gr.mem
      rw [List.take_length]
    rw [← hoo] at hK2
    (repeat' (first | exact trivial | exact fun h => h | refine And.intro ?_ ?_ | (intro hb; try simp at hb) | omega | exact rfl | exact Nat.le_refl _ | (show _ + 1 ≤ 4294967296; omega) | (dsimp only; omega) | (show (_ : Int) ≤ (_ : Int); omega) | (show _ < List.length _; simp only [List.length_set, List.length_append, List.length_take]; omega) | (show wantB _ _ = true; simp <;> omega) | (show (_ : Bool) = _; simp_all; done) | (exfalso; omega) | refine aRegion_auto (by decide +kernel) ?_ | fail))
    refine ⟨_, _, (rent_ref (tok := X.length + 6) (e := .list int) (xs := o) (.fz .raw .nilIface) ?_ (Nat.le_refl _)).trans (REnt.drop ⟨rfl, rfl⟩), ?_⟩
    · show (X ++ [AO.row (.list int) o])[X.length]? = _
      rw [List.getElem?_append_right (Nat.le_refl _)]; simp
    · rw [List.take_length]
      exact hK2
  · obtain ⟨e, he, rfl⟩ := List.mem_map.1 hy
    have hR2 := hR.next he hn2
    (repeat' (first | exact trivial | exact fun h => h | refine And.intro ?_ ?_ | (intro hb; try simp at hb) | omega | exact rfl | exact Nat.le_refl _ | (show _ + 1 ≤ 4294967296; omega) | (dsimp only; omega) | (show (_ : Int) ≤ (_ : Int); omega) | (show _ < List.length _; simp only [List.length_set, List.length_append, List.length_take]; omega) | (show wantB _ _ = true; simp <;> omega) | (show (_ : Bool) = _; simp_all; done) | (exfalso; omega) | refine aRegion_auto (by decide +kernel) ?_ | fail))
    refine aact_entry (tok := 5) (m := 1) (off := 0) (bm := bm) (since := clk) (clock := clk) (b0 := e.1) (s := seen) (ks := ks.map fun e => (e.1, kv1 (e.2 : Int))) (vs := ks.map fun e => .fz int (f e.2 : Int)) (us := []) (kf := fun v => match v with | .int _ z => .fz int z | _ => .unk) ?_ ?_ ?_ ⟨_, List.mem_map.2 ⟨e, he, rfl⟩, rfl⟩ (fun y hy c => ?_) (fun q y av hj hy hav => ?_)
    · rfl
    · rfl
    · rfl
    · obtain ⟨e', _, rfl⟩ := List.mem_map.1 hy
      exact rel_int.2 rfl
    · obtain ⟨e', he', rfl⟩ : ∃ e, ks[q]? = some e ∧ (e.1, kv1 (e.2 : Int)) = y := by
        rw [List.getElem?_map] at hj
        cases hS : ks[q]? with
        | none => rw [hS] at hj; cases hj
        | some e => rw [hS] at hj; exact ⟨e, rfl, by simpa using hj⟩
      have hee : e' = e := stamp_inj hB.st (List.mem_of_getElem? he') he hy
      subst hee
      have hav : av = .fz int (f e'.2 : Int) := by
        rw [List.getElem?_map, he'] at hav
        simpa using hav.symm
      subst hav
      have hle2 := hR2.le
      rw [List.length_append, List.length_singleton] at hle2
      (repeat' (first | exact trivial | exact fun h => h | refine And.intro ?_ ?_ | (intro hb; try simp at hb) | omega | exact rfl | exact Nat.le_refl _ | (show _ + 1 ≤ 4294967296; omega) | (dsimp only; omega) | (show (_ : Int) ≤ (_ : Int); omega) | (show _ < List.length _; simp only [List.length_set, List.length_append, List.length_take]; omega) | (show wantB _ _ = true; simp <;> omega) | (show (_ : Bool) = _; simp_all; done) | (exfalso; omega) | refine aRegion_auto (by decide +kernel) ?_ | fail))
      refine ⟨(es ++ [e'], seen ++ [e'.1], out ++ [e'.2]), hR2, ?_, Ent.ren [0, 1, 2, 3, 4, 5, 8] rfl ?_ ?_⟩
      · show ks.length - (out ++ [e'.2]).length < ks.length - out.length
        rw [List.length_append, List.length_singleton]; omega
      · (repeat' (first | exact trivial | exact rfl | refine And.intro ?_ ?_))
        · exact congrArg some (of_same _ bm clk ks _).symm
        · exact okLB_fz (α := Nat × Nat) ..
        · refine congrArg (fun l => some (AO.row int l)) (?_ : List.take out.length (natL out) ++ [(e'.2 : Int)] = natL (out ++ [e'.2]))
          rw [List.take_of_length_le (by omega), natL_add]; rfl
      · (repeat' (first | exact trivial | exact rfl | refine And.intro ?_ ?_))
        refine congrArg (AV.ref 8 0) (?_ : out.length + 1 = (out ++ [e'.2]).length)
        rw [List.length_append, List.length_singleton]
end Go.Proofs.YtgjjooophigkoaaGreatDoor
/-
  BasinPasses, plainly: the passes as they come; labels and roots; the groups.
-/
namespace Go.Proofs.YtgjjooophigkoaaGreatDoor
open Go Go.Ab Ps
namespace Bp
/-- where one has come to in the list -/
structure Bef (L : List Pa) (x y : Int) (k : Nat) : Prop where
  le : k ≤ L.length
  lo : ∀ i (h : i < L.length), i < k → Bf L[i] (x, y, 0)
  hi : ∀ i (h : i < L.length), k ≤ i → ¬ Bf L[i] (x, y, 0)
variable {b hg : Nat → Int} {Q : Nat → Nat → Prop} {L : List Pa}
theorem bf_irr {p : Pa} {x y v v' : Int} : Bf p (x, y, v) ↔ Bf p (x, y, v') := Iff.rfl
/-- the pass that comes is the one at k -/
theorem Bef.hit (h : PL b hg Q L) {x y v : Int} {k : Nat} (B : Bef L x y k) (hm : (x, y, v) ∈ L) : ∃ hk : k < L.length, L[k] = (x, y, v) ∧ Bef L x (y + 1) (k + 1) := by
  obtain ⟨i, hi, hie⟩ := List.getElem_of_mem hm
  have hge : k ≤ i := by
    rcases Nat.lt_or_ge i k with h1 | h1
    · have := B.lo i hi h1
      rw [hie] at this
      unfold Bf at this; simp only at this; omega
    · exact h1
  have hik : i = k := by
    rcases Nat.lt_or_ge k i with h1 | h1
    · have h2 := List.pairwise_iff_getElem.1 h.srt k i (by omega) hi h1
      rw [hie] at h2
      exact absurd h2 (B.hi k (by omega) (Nat.le_refl _))
    · omega
  subst hik
  refine ⟨hi, hie, by omega, fun j hj hjk => ?_, fun j hj hjk => ?_⟩
  · by_cases e : j = i
    · subst e; rw [hie]; exact .inr ⟨rfl, by show y < y + 1; omega⟩
    · have := B.lo j hj (by omega)
      unfold Bf at *; simp only at *; omega
  · have h2 := List.pairwise_iff_getElem.1 h.srt i j hi hj (by omega)
    rw [hie] at h2
    unfold Bf at *; simp only at *; omega
/-- no pass here -/
theorem Bef.miss {x y : Int} {k : Nat} (B : Bef L x y k) (hno : ∀ v, (x, y, v) ∉ L) : Bef L x (y + 1) k := by
  refine ⟨B.le, fun j hj hjk => ?_, fun j hj hjk hb => ?_⟩
  · have := B.lo j hj hjk
    unfold Bf at *; simp only at *; omega
  · have h1 := B.hi j hj hjk
    have h2 : ¬ (L[j].1 = x ∧ L[j].2.1 = y) := fun e => hno L[j].2.2 (by
      have : L[j] = (x, y, L[j].2.2) := Prod.ext e.1 (Prod.ext e.2 rfl)
      rw [← this]; exact List.getElem_mem _)
    unfold Bf at *; simp only at *; omega
theorem Bef.start (h : ∀ p ∈ L, 0 ≤ p.1 ∧ p.1 < p.2.1) : Bef L 0 1 0 := by
  refine ⟨Nat.zero_le _, fun j _ hj => absurd hj (Nat.not_lt_zero _), fun j hj _ hb => ?_⟩
  have := h L[j] (List.getElem_mem _)
  unfold Bf at hb; simp only at hb; omega
theorem Bef.row {x n : Int} {k : Nat} (B : Bef L x n k) (_hx : x < n) (h : ∀ p ∈ L, p.1 < p.2.1 ∧ p.2.1 < n) : Bef L (x + 1) (x + 2) k := by
  refine ⟨B.le, fun j hj hjk => ?_, fun j hj hjk hb => ?_⟩
  · have := B.lo j hj hjk
    have := h L[j] (List.getElem_mem _)
    unfold Bf at *; simp only at *; omega
  · have h1 := B.hi j hj hjk
    have := h L[j] (List.getElem_mem _)
    unfold Bf at *; simp only at *; omega
theorem Bef.done {n : Int} {k : Nat} (B : Bef L n (n + 1) k) (h : ∀ p ∈ L, p.1 < p.2.1 ∧ p.2.1 < n) : k = L.length := by
  rcases Nat.lt_or_ge k L.length with h1 | h1
  · have h2 := B.hi k h1 (Nat.le_refl _)
    have := h L[k] (List.getElem_mem _)
    unfold Bf at h2; simp only at h2; omega
  · have := B.le; omega
/-! ### the least pass of two -/
def Sp (b hg : Nat → Int) (x y : Int) (Q : Nat → Nat → Prop) (best : Int) (some : Bool) : Prop :=
  (some = true ∧ Low b hg Q x y best) ∨ (some = false ∧ best = 0 ∧ ∀ i k, Q i k → ¬ (b i = x ∧ b k = y))
theorem Sp.start {x y : Int} : Sp b hg x y (fun _ _ => False) 0 false := .inr ⟨rfl, rfl, fun _ _ h => h.elim⟩
theorem Sp.congr {x y best : Int} {s : Bool} {Q' : Nat → Nat → Prop} (h : Sp b hg x y Q best s) (he : ∀ i k, Q i k ↔ Q' i k) : Sp b hg x y Q' best s := by
  have : Q = Q' := by funext i k; exact propext (he i k)
  subst this; exact h
theorem Sp.skip {x y best : Int} {s : Bool} {i k : Nat} (h : Sp b hg x y Q best s) (hn : ¬ (b i = x ∧ b k = y)) : Sp b hg x y (fun i' k' => Q i' k' ∨ (i' = i ∧ k' = k)) best s := by
  rcases h with ⟨h1, h2⟩ | ⟨h1, h2, h3⟩
  · exact .inl ⟨h1, h2.more fun hx hy => absurd ⟨hx, hy⟩ hn⟩
  · refine .inr ⟨h1, h2, fun i' k' hq hxy => ?_⟩
    rcases hq with hq | ⟨rfl, rfl⟩
    · exact h3 i' k' hq hxy
    · exact hn hxy
theorem Sp.add {x y best : Int} {s : Bool} {i k : Nat} (h : Sp b hg x y Q best s) (hx : b i = x) (hy : b k = y) :
    Sp b hg x y (fun i' k' => Q i' k' ∨ (i' = i ∧ k' = k)) (if s = false ∨ max (hg i) (hg k) < best then max (hg i) (hg k) else best) true := by
  refine .inl ⟨rfl, ?_⟩
  rcases h with ⟨h1, h2⟩ | ⟨h1, h2, h3⟩
  · subst h1
    by_cases hlt : max (hg i) (hg k) < best
    · rw [if_pos (.inr hlt)]
      refine ⟨⟨i, k, .inr ⟨rfl, rfl⟩, hx, hy, rfl⟩, fun i' k' hq hx' hy' => ?_⟩
      rcases hq with hq | ⟨rfl, rfl⟩
      · have := h2.2 i' k' hq hx' hy'; omega
      · exact Int.le_refl _
    · rw [if_neg (by simp; omega)]
      exact h2.more fun _ _ => by omega
  · subst h1
    rw [if_pos (.inl rfl)]
    refine ⟨⟨i, k, .inr ⟨rfl, rfl⟩, hx, hy, rfl⟩, fun i' k' hq hx' hy' => ?_⟩
    rcases hq with hq | ⟨rfl, rfl⟩
    · exact absurd ⟨hx', hy'⟩ (h3 i' k' hq)
    · exact Int.le_refl _
/-! ### labels -/
def jn (g : Nat → Nat) (x y : Nat) : Nat → Nat := fun i => if g i = max (g x) (g y) then min (g x) (g y) else g i
def lab1 (level : Int) (g : Nat → Nat) (p : Pa) : Nat → Nat := if p.2.2 ≤ level then jn g p.1.toNat p.2.1.toNat else g
def labL (level : Int) (L : List Pa) : Nat → Nat := L.foldl (lab1 level) id
theorem uf1_le {f : Nat → Nat} (hf : ∀ x, f x ≤ x) (level : Int) (p : Pa) : ∀ x, uf1 level f p x ≤ x := by
  unfold uf1
  split
  · exact Uf.un_le (Uf.cp_le (Uf.cp_le hf _) _) _ _
  · exact hf
theorem ufL_le (level : Int) (L : List Pa) : ∀ x, ufL level L x ≤ x := by
  unfold ufL
  suffices h : ∀ (L : List Pa) (f : Nat → Nat), (∀ x, f x ≤ x) → ∀ x, L.foldl (uf1 level) f x ≤ x from h L id fun x => Nat.le_refl _
  intro L
  induction L with
  | nil => exact fun f h => h
  | cons p L ih => exact fun f h => ih _ (uf1_le h level p)
theorem uf1_R {f : Nat → Nat} (hf : ∀ x, f x ≤ x) (level : Int) (p : Pa) : Uf.R (uf1 level f p) = lab1 level (Uf.R f) p := by
  unfold uf1 lab1
  split
  · funext z
    obtain ⟨x, hx⟩ : ∃ x, p.1.toNat = x := ⟨_, rfl⟩
    obtain ⟨y, hy⟩ : ∃ y, p.2.1.toNat = y := ⟨_, rfl⟩
    rw [hx, hy]
    have hF := Uf.cp_le (Uf.cp_le hf x) y
    have hR : ∀ z, Uf.R (Uf.cp (Uf.cp f x) y) z = Uf.R f z := fun z => (Uf.cp_R (Uf.cp_le hf x) y z).trans (Uf.cp_R hf x z)
    have hfx : ∀ z, Uf.cp (Uf.cp f x) y (Uf.R f z) = Uf.R f z := fun z => by
      have := Uf.R_fix hF z
      rwa [hR z] at this
    rw [Uf.un_R hF (hfx x) (hfx y) z, hR]
    unfold jn
    rcases Nat.le_total (Uf.R f x) (Uf.R f y) with h | h
    · rw [Nat.min_eq_left h, Nat.max_eq_right h]
      by_cases h1 : Uf.R f z = Uf.R f y
      · rw [if_pos (.inr h1), if_pos h1]
      · rw [if_neg h1]
        by_cases h2 : Uf.R f z = Uf.R f x
        · rw [if_pos (.inl h2), h2]
        · rw [if_neg (by omega)]
    · rw [Nat.min_eq_right h, Nat.max_eq_left h]
      by_cases h1 : Uf.R f z = Uf.R f x
      · rw [if_pos (.inl h1), if_pos h1]
      · rw [if_neg h1]
        by_cases h2 : Uf.R f z = Uf.R f y
        · rw [if_pos (.inr h2), h2]
        · rw [if_neg (by omega)]
  · rfl
theorem ufL_R (level : Int) (L : List Pa) : Uf.R (ufL level L) = labL level L := by
  unfold ufL labL
  suffices h : ∀ (L : List Pa) (f : Nat → Nat), (∀ x, f x ≤ x) → Uf.R (L.foldl (uf1 level) f) = L.foldl (lab1 level) (Uf.R f) by
    have h0 : Uf.R (id : Nat → Nat) = id := by funext x; exact Uf.R_root rfl
    rw [h L id fun x => Nat.le_refl _, h0]
  intro L
  induction L with
  | nil => exact fun f _ => rfl
  | cons p L ih => intro f hf; rw [List.foldl_cons, List.foldl_cons, ih _ (uf1_le hf level p), uf1_R hf]
theorem labL_le (level : Int) (L : List Pa) (x : Nat) : labL level L x ≤ x := by
  rw [← ufL_R]; exact Uf.R_le (ufL_le level L) x
theorem labL_next (level : Int) (L : List Pa) {k : Nat} (hk : k < L.length) : labL level (L.take (k + 1)) = lab1 level (labL level (L.take k)) L[k] := by
  unfold labL
  rw [List.take_add_one, List.getElem?_eq_getElem hk, List.foldl_append]; rfl
theorem jn_le {g : Nat → Nat} (hg : ∀ x, g x ≤ x) (x y z : Nat) : jn g x y z ≤ z := by
  unfold jn
  split
  · have := hg z; omega
  · exact hg z
/-! ### groups -/
def isG (R home : Nat → Nat) (x : Nat) : Bool := decide (home x = x) && decide (R x = x)
def inG (R home : Nat → Nat) (x y : Nat) : Bool := decide (home y = y) && decide (R y = x)
/-- what is wanted of one root -/
def want (R home : Nat → Nat) (x n : Nat) : List Nat := (List.range n).filter (inG R home x)
def wants (R home : Nat → Nat) (n m : Nat) : List (List Int) := ((List.range m).filter (isG R home)).map fun x => natL (want R home x n)
theorem wants_next (R home : Nat → Nat) (n m : Nat) : wants R home n (m + 1) = if isG R home m = true then wants R home n m ++ [natL (want R home m n)] else wants R home n m := by
  unfold wants
  rw [List.range_succ, List.filter_append, List.map_append]
  by_cases h : isG R home m = true
  · rw [if_pos h]; simp [h]
  · rw [if_neg h]; simp [h]
theorem want_next (R home : Nat → Nat) (x n : Nat) : want R home x (n + 1) = if inG R home x n = true then want R home x n ++ [n] else want R home x n := by
  unfold want
  rw [List.range_succ, List.filter_append]
  by_cases h : inG R home x n = true
  · rw [if_pos h]; simp [h]
  · rw [if_neg h]; simp [h]
theorem want_low {R home : Nat → Nat} (hR : ∀ y, R y ≤ y) (x : Nat) : ∀ n, n ≤ x → want R home x n = [] := fun n hn => by
  unfold want
  rw [List.filter_eq_nil_iff]
  intro y hy h
  unfold inG at h
  simp only [Bool.and_eq_true, decide_eq_true_eq] at h
  have := hR y
  have := List.mem_range.1 hy
  omega
theorem wants_len (R home : Nat → Nat) (n m : Nat) : (wants R home n m).length ≤ m := by
  unfold wants
  rw [List.length_map]
  have := List.length_filter_le (isG R home) (List.range m)
  rw [List.length_range] at this
  exact this
theorem want_len (R home : Nat → Nat) (x n : Nat) : (want R home x n).length ≤ n := by
  unfold want
  have := List.length_filter_le (inG R home x) (List.range n)
  rw [List.length_range] at this
  exact this
theorem wants_pre (R home : Nat → Nat) (n : Nat) {m q : Nat} (h : m ≤ q) : ∃ T, wants R home n q = wants R home n m ++ T := by
  induction q with
  | zero => obtain rfl : m = 0 := by omega
            exact ⟨[], by simp⟩
  | succ q ih =>
    by_cases e : m = q + 1
    · subst e; exact ⟨[], by simp⟩
    · obtain ⟨T, hT⟩ := ih (by omega)
      rw [wants_next]
      split
      · exact ⟨T ++ [natL (want R home q n)], by rw [hT, List.append_assoc]⟩
      · exact ⟨T, hT⟩
theorem sorted_nat_uniq : ∀ (l m : List Nat), l.Pairwise (· < ·) → m.Pairwise (· < ·) → (∀ x, x ∈ l ↔ x ∈ m) → l = m
  | [], [], _, _, _ => rfl
  | [], q :: m, _, _, h => by have := (h q).2 (List.mem_cons_self ..); simp at this
  | p :: l, [], _, _, h => by have := (h p).1 (List.mem_cons_self ..); simp at this
  | p :: l, q :: m, hl, hm, h => by
    obtain ⟨l1, l2⟩ := List.pairwise_cons.1 hl
    obtain ⟨m1, m2⟩ := List.pairwise_cons.1 hm
    have hpq : p = q := by
      rcases List.mem_cons.1 ((h p).1 (List.mem_cons_self ..)) with e | hp
      · exact e
      · rcases List.mem_cons.1 ((h q).2 (List.mem_cons_self ..)) with e | hq
        · exact e.symm
        · have := m1 p hp; have := l1 q hq; omega
    subst hpq
    refine congrArg (p :: ·) (sorted_nat_uniq l m l2 m2 fun r => ⟨fun hr => ?_, fun hr => ?_⟩)
    · rcases List.mem_cons.1 ((h r).1 (List.mem_cons_of_mem _ hr)) with e | h'
      · subst e; have := l1 r hr; omega
      · exact h'
    · rcases List.mem_cons.1 ((h r).2 (List.mem_cons_of_mem _ hr)) with e | h'
      · subst e; have := m1 r hr; omega
      · exact h'
/-- the program's groups are the wanted ones -/
theorem groups_eq {R home : Nat → Nat} {n : Nat} {fst : List Nat} (hs : fst.Pairwise (· < ·)) (hm : ∀ y, y ∈ fst ↔ ∃ i, i < n ∧ home i = y) (hh : ∀ i, i < n → home i < n ∧ home (home i) = home i) :
    ((fst.filter fun k => decide (R k = k)).map fun k => natL (fst.filter fun z => decide (R z = k))) = wants R home n n := by
  have hf : fst = (List.range n).filter fun y => decide (home y = y) := by
    refine sorted_nat_uniq _ _ hs (List.Pairwise.filter _ List.pairwise_lt_range) fun y => ?_
    rw [hm, List.mem_filter, List.mem_range, decide_eq_true_eq]
    constructor
    · rintro ⟨i, hi, rfl⟩; exact hh i hi
    · rintro ⟨h1, h2⟩; exact ⟨y, h1, h2⟩
  have e1 : ∀ k, fst.filter (fun z => decide (R z = k)) = want R home k n := fun k => by
    rw [hf, List.filter_filter]
    unfold want
    refine List.filter_congr fun z _ => ?_
    unfold inG
    rw [Bool.and_comm]
  have e2 : fst.filter (fun k => decide (R k = k)) = (List.range n).filter (isG R home) := by
    rw [hf, List.filter_filter]
    refine List.filter_congr fun z _ => ?_
    unfold isG
    rw [Bool.and_comm]
  unfold wants
  rw [e2]
  exact List.map_congr_left fun k _ => by rw [e1]
theorem home_fix {w h : Nat} {to : Nat → Nat} {ord : List Nat} (F : FlowN w h to ord) : ∀ p i, i < w * h → ord.idxOf i ≤ p → to (homeN w h to i) = homeN w h to i := by
  intro p
  induction p with
  | zero =>
    intro i hi hp
    by_cases e : to i = i
    · rw [F.home_rim hi e]; exact e
    · have := F.pos i hi e; omega
  | succ p ih =>
    intro i hi hp
    by_cases e : to i = i
    · rw [F.home_rim hi e]; exact e
    · rw [F.home_to hi]
      have := F.pos i hi e
      exact ih (to i) (F.lt i hi) (by omega)
theorem home_ok {w h : Nat} {to : Nat → Nat} {ord : List Nat} (F : FlowN w h to ord) (i : Nat) (hi : i < w * h) : homeN w h to i < w * h ∧ homeN w h to (homeN w h to i) = homeN w h to i := by
  have h1 := F.home_lt _ i hi (Nat.le_refl _)
  exact ⟨h1, F.home_rim h1 (home_fix F _ i hi (Nat.le_refl _))⟩
end Bp
end Go.Proofs.YtgjjooophigkoaaGreatDoor
