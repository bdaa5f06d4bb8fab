/-
  Sorting numbers: what breaks patterns.
-/
import Derived.Test.YtgjjooophigkoaaGreatDoorM8
import Derived.Shelf.SlSortCmp.WholeK
import Derived.Test.YtgjjooophigkoaaGreatDoorProg
import Derived.Calls
import Derived.Shelf.SlSortCmp.NoneTotal
import Derived.WalkKit
namespace Go.Proofs.YtgjjooophigkoaaGreatDoor
open Go Go.Ab
set_option maxRecDepth 100000
theorem u64_and (y m : Int) (h0 : 0 ≤ m) (h1 : m < 18446744073709551616) : 0 ≤ bitI .and .u64 y m ∧ bitI .and .u64 y m ≤ m := by
  have h : (((BitVec.ofInt 64 y &&& BitVec.ofInt 64 m).toNat : Nat) : Int) ≤ m := by
    rw [BitVec.toNat_and]
    have h := Nat.and_le_right (n := (BitVec.ofInt 64 y).toNat) (m := (BitVec.ofInt 64 m).toNat)
    rw [BitVec.toNat_ofInt] at h
    have e : (m % ((2 ^ 64 : Nat) : Int)).toNat = m.toNat := by
      congr 1
      exact Int.emod_eq_of_lt h0 (by simpa using h1)
    rw [BitVec.toNat_ofInt] at *
    rw [BitVec.toNat_ofInt] at *
    omega
  show 0 ≤ IntKind.wrap .u64 (((BitVec.ofInt 64 y &&& BitVec.ofInt 64 m).toNat : Nat) : Int) ∧ IntKind.wrap .u64 (((BitVec.ofInt 64 y &&& BitVec.ofInt 64 m).toNat : Nat) : Int) ≤ m
  have e : ∀ z : Int, IntKind.wrap .u64 z = z % 18446744073709551616 := fun z => by
    unfold IntKind.wrap
    simp [IntKind.signed, IntKind.bits]
  rw [e]
  omega
theorem u64_id {z : Int} (h0 : 0 ≤ z) (h1 : z < 18446744073709551616) : IntKind.wrap .u64 z = z := by
  have e : ∀ z : Int, IntKind.wrap .u64 z = z % 18446744073709551616 := fun z => by
    unfold IntKind.wrap
    simp [IntKind.signed, IntKind.bits]
  rw [e]; omega
theorem bl_le : ∀ l : Nat, l < 256 → 8 ≤ l → 8 ≤ 2 ^ bl l ∧ 2 ^ bl l ≤ 2 * l := by decide +kernel
set_option maxHeartbeats 8000000 in
theorem breakPat_any (G : List (Nat × Value)) (xs : List Int) (n a b : Nat) (hn : xs.length = n) (hs : n ≤ 128) (hab : a ≤ b) (hbn : b ≤ n) (K : AV → List AO → Prop) (hK : ∀ ys, Pdq.SP 0 a b xs ys → K (.tup []) [.row int ys]) :
    ACall Tryz.prog G 146 [.ref 0 0 n, .fz int a, .fz int b] [.row int xs] K := by
  obtain ⟨q, hq⟩ : ∃ q, q = (b - a) / 4 := ⟨_, rfl⟩
  have hqd : Int.tdiv ((b : Int) - (a : Int)) 4 = (q : Int) := by rw [Int.tdiv_eq_ediv_of_nonneg (by omega)]; omega
  refine acall_mk (E := envAt G 65 1) (envOk _ _ _) Tryz.func146 rfl rfl rfl rfl rfl ?_
  by_cases h8 : a + 8 ≤ b
  · (repeat' (first | exact trivial | exact fun h => h | refine And.intro ?_ ?_ | (intro hb; try simp at hb) | omega | exact rfl | exact Nat.le_refl _ | (show _ + 1 ≤ 4294967296; omega) | (dsimp only; omega) | (show (_ : Int) ≤ (_ : Int); omega) | (show _ < List.length _; simp only [List.length_set, List.length_append, List.length_take]; omega) | (show wantB _ _ = true; simp <;> omega) | (show (_ : Bool) = _; simp_all; done) | (exfalso; omega) | refine aRegion_auto (by decide +kernel) ?_ | fail))
    refine acall_frame0 rfl (acall_arg (nextPow_any _ (b - a) (by omega) _ ?_) (congrArg (fun z => [AV.fz int z]) (show ((b - a : Nat) : Int) = (b : Int) - a by omega)))
    (repeat' (first | exact trivial | exact fun h => h | refine And.intro ?_ ?_ | (intro hb; try simp at hb) | omega | exact rfl | exact Nat.le_refl _ | (show _ + 1 ≤ 4294967296; omega) | (dsimp only; omega) | (show (_ : Int) ≤ (_ : Int); omega) | (show _ < List.length _; simp only [List.length_set, List.length_append, List.length_take]; omega) | (show wantB _ _ = true; simp <;> omega) | (show (_ : Bool) = _; simp_all; done) | (exfalso; omega) | refine aRegion_auto (by decide +kernel) ?_ | fail))
    refine ⟨List Int × Int × Nat, fun x => ⟨[(0, .ref 0 0 n), (1, .fz int a), (2, .fz int b), (6, .fz int ((b : Int) - a)), (7, .ptr 1 0), (8, .fz (.int .u64) ((2 ^ bl (b - a) : Nat) : Int)), (9, .fz int ((a : Int) + 2 * (q : Int) - 1 + x.2.2))], [.row int x.1, .box [.fz (.int .u64) x.2.1]]⟩, fun x => x.2.2 ≤ 3 ∧ Pdq.SP 0 a b xs x.1 ∧ 0 ≤ x.2.1 ∧ x.2.1 < 18446744073709551616, fun x => 3 - x.2.2, (xs, IntKind.wrap .u64 ((b : Int) - a), 0), ⟨Nat.zero_le _, .refl _, (u64_wrap _).1, (u64_wrap _).2⟩, Ent.sub rfl ?_, ?_⟩
    · (repeat' (first | exact trivial | exact rfl | refine And.intro ?_ ?_))
      all_goals exact congrArg (AV.fz int) (show (a : Int) + Int.tdiv ((b : Int) - (a : Int)) 4 * 2 - 1 = (a : Int) + 2 * (q : Int) - 1 + ((0 : Nat) : Int) by rw [hqd]; omega)
    obtain ⟨L, hL⟩ : ∃ L, L = b - a := ⟨_, rfl⟩
    obtain ⟨mo, hmo⟩ : ∃ mo, mo = 2 ^ bl (b - a) := ⟨_, rfl⟩
    have hm2 := bl_le (b - a) (by omega) (by omega)
    rw [← hmo] at hm2 ⊢
    rintro ⟨ys, y, k⟩ ⟨h3, hsp, y0, y1⟩
    have h3 : k ≤ 3 := h3
    have hsp : Pdq.SP 0 a b xs ys := hsp
    have y0 : 0 ≤ y := y0
    have y1 : y < 18446744073709551616 := y1
    have hly := hsp.len
    show awp _ _ _ ⟨[(0, .ref 0 0 n), (1, .fz int a), (2, .fz int b), (6, .fz int ((b : Int) - a)), (7, .ptr 1 0), (8, .fz (.int .u64) (mo : Int)), (9, .fz int ((a : Int) + 2 * (q : Int) - 1 + k))], [.row int ys, .box [.fz (.int .u64) y]]⟩
    by_cases hk : k < 3
    · (repeat' (first | exact trivial | exact fun h => h | refine And.intro ?_ ?_ | (intro hb; try simp at hb) | omega | exact rfl | exact Nat.le_refl _ | (show _ + 1 ≤ 4294967296; omega) | (dsimp only; omega) | (show (_ : Int) ≤ (_ : Int); omega) | (show _ < List.length _; simp only [List.length_set, List.length_append, List.length_take]; omega) | (show wantB _ _ = true; simp <;> omega) | (show (_ : Bool) = _; simp_all; done) | (exfalso; omega) | refine aRegion_auto (by decide +kernel) ?_ | fail))
      refine acall_frame [1] [.box [.fz (.int .u64) y]] [.ptr 0 0] rfl (by repeat' (first | exact rfl | exact trivial | refine And.intro ?_ ?_)) ⟨rfl, rfl⟩ rfl (next_any _ y y0 y1 _ fun y' z0 z1 => ?_)
      have hwr : IntKind.wrap .u64 ((mo : Int) - 1) = (mo : Int) - 1 := u64_id (by omega) (by omega)
      have zb : 0 ≤ bitI .and .u64 y' (IntKind.wrap .u64 ((mo : Int) - 1)) ∧ bitI .and .u64 y' (IntKind.wrap .u64 ((mo : Int) - 1)) ≤ (mo : Int) - 1 := by
        rw [hwr]; exact u64_and y' _ (by omega) (by omega)
      have hw64 : IntKind.wrap .i64 (bitI .and .u64 y' (IntKind.wrap .u64 ((mo : Int) - 1))) = bitI .and .u64 y' (IntKind.wrap .u64 ((mo : Int) - 1)) := I64.wrap ⟨by omega, by omega⟩
      obtain ⟨o, ho⟩ : ∃ o : Nat, (o : Int) = bitI .and .u64 y' (IntKind.wrap .u64 ((mo : Int) - 1)) := ⟨(bitI .and .u64 y' (IntKind.wrap .u64 ((mo : Int) - 1))).toNat, by omega⟩
      by_cases hol : b ≤ a + o
      · (repeat' (first | exact trivial | exact fun h => h | refine And.intro ?_ ?_ | (intro hb; try simp at hb) | omega | exact rfl | exact Nat.le_refl _ | (show _ + 1 ≤ 4294967296; omega) | (dsimp only; omega) | (show (_ : Int) ≤ (_ : Int); omega) | (show _ < List.length _; simp only [List.length_set, List.length_append, List.length_take]; omega) | (show wantB _ _ = true; simp <;> omega) | (show (_ : Bool) = _; simp_all; done) | (exfalso; omega) | refine aRegion_auto (by decide +kernel) ?_ | fail))
        (apply exEff; focus (repeat' (first | exact ⟨rfl, rfl⟩ | exact trivial | refine And.intro ?_ ?_ | omega | exact Nat.le_refl _ | (show _ + 1 ≤ 4294967296; omega))))
        (repeat' (first | exact trivial | exact fun h => h | refine And.intro ?_ ?_ | (intro hb; try simp at hb) | omega | exact rfl | exact Nat.le_refl _ | (show _ + 1 ≤ 4294967296; omega) | (dsimp only; omega) | (show (_ : Int) ≤ (_ : Int); omega) | (show _ < List.length _; simp only [List.length_set, List.length_append, List.length_take]; omega) | (show wantB _ _ = true; simp <;> omega) | (show (_ : Bool) = _; simp_all; done) | (exfalso; omega) | refine aRegion_auto (by decide +kernel) ?_ | fail))
        (apply exEff; focus (repeat' (first | exact ⟨rfl, rfl⟩ | exact trivial | refine And.intro ?_ ?_ | omega | exact Nat.le_refl _ | (show _ + 1 ≤ 4294967296; omega))))
        (repeat' (first | exact trivial | exact fun h => h | refine And.intro ?_ ?_ | (intro hb; try simp at hb) | omega | exact rfl | exact Nat.le_refl _ | (show _ + 1 ≤ 4294967296; omega) | (dsimp only; omega) | (show (_ : Int) ≤ (_ : Int); omega) | (show _ < List.length _; simp only [List.length_set, List.length_append, List.length_take]; omega) | (show wantB _ _ = true; simp <;> omega) | (show (_ : Bool) = _; simp_all; done) | (exfalso; omega) | refine aRegion_auto (by decide +kernel) ?_ | fail))
        refine ⟨(Pdq.sw 0 ys (a + 2 * q - 1 + k) (a + (o - (b - a))), y', k + 1), ⟨by show k + 1 ≤ 3; omega, .step hsp ⟨by omega, by omega⟩ ⟨by omega, by omega⟩ (by omega), z0, z1⟩, by show 3 - (k + 1) < 3 - k; omega, Ent.sub ?_ ?_⟩
        · (repeat' (first | exact rfl | refine cons_eq ?_ ?_))
          exact congrArg (AO.row int) (set_sw (by omega) (by omega) (get_at (by omega)) (get_at (by omega)))
        · (repeat' (first | exact trivial | exact rfl | refine And.intro ?_ ?_))
          exact congrArg (AV.fz int) (show (a : Int) + 2 * (q : Int) - 1 + (k : Int) + 1 = (a : Int) + 2 * (q : Int) - 1 + ((k + 1 : Nat) : Int) by omega)
      · (repeat' (first | exact trivial | exact fun h => h | refine And.intro ?_ ?_ | (intro hb; try simp at hb) | omega | exact rfl | exact Nat.le_refl _ | (show _ + 1 ≤ 4294967296; omega) | (dsimp only; omega) | (show (_ : Int) ≤ (_ : Int); omega) | (show _ < List.length _; simp only [List.length_set, List.length_append, List.length_take]; omega) | (show wantB _ _ = true; simp <;> omega) | (show (_ : Bool) = _; simp_all; done) | (exfalso; omega) | refine aRegion_auto (by decide +kernel) ?_ | fail))
        (apply exEff; focus (repeat' (first | exact ⟨rfl, rfl⟩ | exact trivial | refine And.intro ?_ ?_ | omega | exact Nat.le_refl _ | (show _ + 1 ≤ 4294967296; omega))))
        (repeat' (first | exact trivial | exact fun h => h | refine And.intro ?_ ?_ | (intro hb; try simp at hb) | omega | exact rfl | exact Nat.le_refl _ | (show _ + 1 ≤ 4294967296; omega) | (dsimp only; omega) | (show (_ : Int) ≤ (_ : Int); omega) | (show _ < List.length _; simp only [List.length_set, List.length_append, List.length_take]; omega) | (show wantB _ _ = true; simp <;> omega) | (show (_ : Bool) = _; simp_all; done) | (exfalso; omega) | refine aRegion_auto (by decide +kernel) ?_ | fail))
        (apply exEff; focus (repeat' (first | exact ⟨rfl, rfl⟩ | exact trivial | refine And.intro ?_ ?_ | omega | exact Nat.le_refl _ | (show _ + 1 ≤ 4294967296; omega))))
        (repeat' (first | exact trivial | exact fun h => h | refine And.intro ?_ ?_ | (intro hb; try simp at hb) | omega | exact rfl | exact Nat.le_refl _ | (show _ + 1 ≤ 4294967296; omega) | (dsimp only; omega) | (show (_ : Int) ≤ (_ : Int); omega) | (show _ < List.length _; simp only [List.length_set, List.length_append, List.length_take]; omega) | (show wantB _ _ = true; simp <;> omega) | (show (_ : Bool) = _; simp_all; done) | (exfalso; omega) | refine aRegion_auto (by decide +kernel) ?_ | fail))
        refine ⟨(Pdq.sw 0 ys (a + 2 * q - 1 + k) (a + o), y', k + 1), ⟨by show k + 1 ≤ 3; omega, .step hsp ⟨by omega, by omega⟩ ⟨by omega, by omega⟩ (by omega), z0, z1⟩, by show 3 - (k + 1) < 3 - k; omega, Ent.sub ?_ ?_⟩
        · (repeat' (first | exact rfl | refine cons_eq ?_ ?_))
          exact congrArg (AO.row int) (set_sw (by omega) (by omega) (get_at (by omega)) (get_at (by omega)))
        · (repeat' (first | exact trivial | exact rfl | refine And.intro ?_ ?_))
          exact congrArg (AV.fz int) (show (a : Int) + 2 * (q : Int) - 1 + (k : Int) + 1 = (a : Int) + 2 * (q : Int) - 1 + ((k + 1 : Nat) : Int) by omega)
    · have hk : k = 3 := by omega
      subst hk
      (repeat' (first | exact trivial | exact fun h => h | refine And.intro ?_ ?_ | (intro hb; try simp at hb) | omega | exact rfl | exact Nat.le_refl _ | (show _ + 1 ≤ 4294967296; omega) | (dsimp only; omega) | (show (_ : Int) ≤ (_ : Int); omega) | (show _ < List.length _; simp only [List.length_set, List.length_append, List.length_take]; omega) | (show wantB _ _ = true; simp <;> omega) | (show (_ : Bool) = _; simp_all; done) | (exfalso; omega) | refine aRegion_auto (by decide +kernel) ?_ | fail))
      refine ⟨_, _, REnt.ren [0] rfl ?_ ?_, hK ys hsp⟩ <;> (repeat' (first | exact trivial | exact rfl | refine And.intro ?_ ?_))
  · (repeat' (first | exact trivial | exact fun h => h | refine And.intro ?_ ?_ | (intro hb; try simp at hb) | omega | exact rfl | exact Nat.le_refl _ | (show _ + 1 ≤ 4294967296; omega) | (dsimp only; omega) | (show (_ : Int) ≤ (_ : Int); omega) | (show _ < List.length _; simp only [List.length_set, List.length_append, List.length_take]; omega) | (show wantB _ _ = true; simp <;> omega) | (show (_ : Bool) = _; simp_all; done) | (exfalso; omega) | refine aRegion_auto (by decide +kernel) ?_ | fail))
    exact ⟨_, _, REnt.refl _ _ _, hK xs (.refl _)⟩
end Go.Proofs.YtgjjooophigkoaaGreatDoor
/-
  Sorting numbers: the sort itself.
-/
namespace Go.Proofs.YtgjjooophigkoaaGreatDoor
open Go Go.Ab
set_option maxRecDepth 100000
/-- branches that join with different rows and a number -/
structure Bx2 {α : Type} (I c : List Int → α → Prop) : Prop where
  out : ∀ ws l, I ws l → c ws l
theorem merge2 {α : Type} (I : List Int → α → Prop) {c : List Int → α → Prop} {g : Prop} (f : Bx2 I c → g) (h : ∀ ws l, I ws l → c ws l) : g := f ⟨h⟩
structure Bx3 {α β : Type} (I c : List Int → α → β → Prop) : Prop where
  out : ∀ ws l m, I ws l m → c ws l m
theorem merge3 {α β : Type} (I : List Int → α → β → Prop) {c : List Int → α → β → Prop} {g : Prop} (f : Bx3 I c → g) (h : ∀ ws l m, I ws l m → c ws l m) : g := f ⟨h⟩
set_option maxHeartbeats 16000000 in
theorem pdq_any (G : List (Nat × Value)) : ∀ (sz : Nat) (xs : List Int) (n a b lim : Nat), b - a = sz → xs.length = n → n ≤ 128 → a ≤ b → b ≤ n → lim ≤ 64 → Pdq.Pre ltI 0 a b xs → ∀ (K : AV → List AO → Prop), (∀ ys, Pdq.SP 0 a b xs ys → Pdq.Srt ltI 0 a b ys → K (.tup []) [.row int ys]) →
    ACall Tryz.prog G 104 [.ref 0 0 n, .fz int a, .fz int b, .fz int lim] [.row int xs] K := by
  intro sz
  induction sz using Nat.strongRecOn with
  | ind sz ih =>
  intro xs n a b lim hsz hn hs hab hbn hlim hpre K hK
  refine acall_mk (E := envCut G 134 1 [10, 15, 17]) (envCutOk _ _ _ _) Tryz.func104 rfl rfl rfl rfl rfl ?_
  (repeat' (first | exact trivial | exact fun h => h | refine And.intro ?_ ?_ | (intro hb; try simp at hb) | omega | exact rfl | exact Nat.le_refl _ | (show _ + 1 ≤ 4294967296; omega) | (dsimp only; omega) | (show (_ : Int) ≤ (_ : Int); omega) | (show _ < List.length _; simp only [List.length_set, List.length_append, List.length_take]; omega) | (show wantB _ _ = true; simp <;> omega) | (show (_ : Bool) = _; simp_all; done) | (exfalso; omega) | refine aRegion_auto (by decide +kernel) ?_ | fail))
  refine ⟨List Int × Nat × Nat × Nat × Bool × Bool, fun x => ⟨[(0, .ref 0 0 n), (1, .fz int x.2.1), (2, .fz int x.2.2.1), (3, .fz int x.2.2.2.1), (8, .fz .bool x.2.2.2.2.1), (9, .fz .bool x.2.2.2.2.2)], [.row int x.1]⟩, fun x => a ≤ x.2.1 ∧ x.2.1 ≤ x.2.2.1 ∧ x.2.2.1 ≤ b ∧ x.2.2.2.1 ≤ 64 ∧ Pdq.SP 0 a b xs x.1 ∧ Pdq.Arn ltI 0 a b x.2.1 x.2.2.1 x.1 ∧ Pdq.Pre ltI 0 x.2.1 x.2.2.1 x.1, fun x => x.2.2.1 - x.2.1, (xs, a, b, lim, true, true), ⟨Nat.le_refl _, hab, Nat.le_refl _, hlim, .refl _, .start, hpre⟩, Ent.sub rfl ?_, ?_⟩
  · (repeat' (first | exact trivial | exact rfl | refine And.intro ?_ ?_))
  rintro ⟨ys, a1, b1, l1, wb, wp⟩ ⟨h1, h2, h3, h4, hsp, har, hpr⟩
  have h1 : a ≤ a1 := h1
  have h2 : a1 ≤ b1 := h2
  have h3 : b1 ≤ b := h3
  have h4 : l1 ≤ 64 := h4
  have hsp : Pdq.SP 0 a b xs ys := hsp
  have har : Pdq.Arn ltI 0 a b a1 b1 ys := har
  have hpr : Pdq.Pre ltI 0 a1 b1 ys := hpr
  have hly := hsp.len
  show awp _ _ _ ⟨[(0, .ref 0 0 n), (1, .fz int a1), (2, .fz int b1), (3, .fz int l1), (8, .fz .bool wb), (9, .fz .bool wp)], [.row int ys]⟩
  by_cases h12 : b1 ≤ a1 + 12
  · (repeat' (first | exact trivial | exact fun h => h | refine And.intro ?_ ?_ | (intro hb; try simp at hb) | omega | exact rfl | exact Nat.le_refl _ | (show _ + 1 ≤ 4294967296; omega) | (dsimp only; omega) | (show (_ : Int) ≤ (_ : Int); omega) | (show _ < List.length _; simp only [List.length_set, List.length_append, List.length_take]; omega) | (show wantB _ _ = true; simp <;> omega) | (show (_ : Bool) = _; simp_all; done) | (exfalso; omega) | refine aRegion_auto (by decide +kernel) ?_ | fail))
    refine insertion_any _ ys n a1 b1 (by omega) (by omega) h2 (by omega) _ fun zs z1 z2 => ?_
    (repeat' (first | exact trivial | exact fun h => h | refine And.intro ?_ ?_ | (intro hb; try simp at hb) | omega | exact rfl | exact Nat.le_refl _ | (show _ + 1 ≤ 4294967296; omega) | (dsimp only; omega) | (show (_ : Int) ≤ (_ : Int); omega) | (show _ < List.length _; simp only [List.length_set, List.length_append, List.length_take]; omega) | (show wantB _ _ = true; simp <;> omega) | (show (_ : Bool) = _; simp_all; done) | (exfalso; omega) | refine aRegion_auto (by decide +kernel) ?_ | fail))
    exact ⟨_, _, REnt.refl _ _ _, hK zs (hsp.trans (z1.wide h1 h3 (by omega))) ((har.sp h1 h3 z1).done z2)⟩
  by_cases hl0 : l1 = 0
  · subst hl0
    (repeat' (first | exact trivial | exact fun h => h | refine And.intro ?_ ?_ | (intro hb; try simp at hb) | omega | exact rfl | exact Nat.le_refl _ | (show _ + 1 ≤ 4294967296; omega) | (dsimp only; omega) | (show (_ : Int) ≤ (_ : Int); omega) | (show _ < List.length _; simp only [List.length_set, List.length_append, List.length_take]; omega) | (show wantB _ _ = true; simp <;> omega) | (show (_ : Bool) = _; simp_all; done) | (exfalso; omega) | refine aRegion_auto (by decide +kernel) ?_ | fail))
    refine heapSort_any _ ys n a1 b1 (by omega) (by omega) h2 (by omega) _ fun zs z1 z2 => ?_
    (repeat' (first | exact trivial | exact fun h => h | refine And.intro ?_ ?_ | (intro hb; try simp at hb) | omega | exact rfl | exact Nat.le_refl _ | (show _ + 1 ≤ 4294967296; omega) | (dsimp only; omega) | (show (_ : Int) ≤ (_ : Int); omega) | (show _ < List.length _; simp only [List.length_set, List.length_append, List.length_take]; omega) | (show wantB _ _ = true; simp <;> omega) | (show (_ : Bool) = _; simp_all; done) | (exfalso; omega) | refine aRegion_auto (by decide +kernel) ?_ | fail))
    exact ⟨_, _, REnt.refl _ _ _, hK zs (hsp.trans (z1.wide h1 h3 (by omega))) ((har.sp h1 h3 z1).done z2)⟩
  apply merge2 (fun ws (l : Nat) => Pdq.SP 0 a1 b1 ys ws ∧ l ≤ 64)
  · intro hc
    (repeat' (first | exact trivial | exact fun h => h | refine And.intro ?_ ?_ | (intro hb; try simp at hb) | omega | exact rfl | exact Nat.le_refl _ | (show _ + 1 ≤ 4294967296; omega) | (dsimp only; omega) | (show (_ : Int) ≤ (_ : Int); omega) | (show _ < List.length _; simp only [List.length_set, List.length_append, List.length_take]; omega) | (show wantB _ _ = true; simp <;> omega) | (show (_ : Bool) = _; simp_all; done) | (exfalso; omega) | refine aRegion_auto (by decide +kernel) ?_ | fail))
    · refine breakPat_any _ ys n a1 b1 (by omega) hs h2 (by omega) _ fun zs z1 => ?_
      obtain ⟨l2, hl2⟩ : ∃ l2 : Nat, l2 = l1 - 1 := ⟨_, rfl⟩
      (repeat' (first | exact trivial | exact fun h => h | refine And.intro ?_ ?_ | (intro hb; try simp at hb) | omega | exact rfl | exact Nat.le_refl _ | (show _ + 1 ≤ 4294967296; omega) | (dsimp only; omega) | (show (_ : Int) ≤ (_ : Int); omega) | (show _ < List.length _; simp only [List.length_set, List.length_append, List.length_take]; omega) | (show wantB _ _ = true; simp <;> omega) | (show (_ : Bool) = _; simp_all; done) | (exfalso; omega) | refine aRegion_auto (by decide +kernel) ?_ | fail))
      refine ⟨[(0, .ref 0 0 n), (1, .fz int a1), (2, .fz int b1), (3, .fz int l2), (8, .fz .bool wb), (9, .fz .bool wp), (10, .fz int ((b1 : Int) - a1))], [.row int zs], Ent.sub rfl ?_, hc.out zs l2 ⟨z1, by omega⟩⟩
      (repeat' (first | exact trivial | exact rfl | refine And.intro ?_ ?_))
      exact congrArg (AV.fz int) (show (l1 : Int) - 1 = l2 by omega)
    · refine ⟨[(0, .ref 0 0 n), (1, .fz int a1), (2, .fz int b1), (3, .fz int l1), (8, .fz .bool wb), (9, .fz .bool wp), (10, .fz int ((b1 : Int) - a1))], [.row int ys], Ent.sub rfl ?_, hc.out ys l1 ⟨.refl _, h4⟩⟩
      (repeat' (first | exact trivial | exact rfl | refine And.intro ?_ ?_))
  clear hl0
  intro ws l ⟨hsw, hl4⟩
  have hl4 : l ≤ 64 := hl4
  have hlw := hsw.len
  (repeat' (first | exact trivial | exact fun h => h | refine And.intro ?_ ?_ | (intro hb; try simp at hb) | omega | exact rfl | exact Nat.le_refl _ | (show _ + 1 ≤ 4294967296; omega) | (dsimp only; omega) | (show (_ : Int) ≤ (_ : Int); omega) | (show _ < List.length _; simp only [List.length_set, List.length_append, List.length_take]; omega) | (show wantB _ _ = true; simp <;> omega) | (show (_ : Bool) = _; simp_all; done) | (exfalso; omega) | refine aRegion_auto (by decide +kernel) ?_ | fail))
  refine choosePivot_any _ ws n a1 b1 (by omega) (by omega) (by omega) (by omega) _ fun p hi p1 p2 => ?_
  apply merge3 (fun us (x : Nat) (_ : Int) => Pdq.SP 0 a1 b1 ys us ∧ a1 ≤ x ∧ x < b1)
  · intro hc
    (repeat' (first | exact trivial | exact fun h => h | refine And.intro ?_ ?_ | (intro hb; try simp at hb) | omega | exact rfl | exact Nat.le_refl _ | (show _ + 1 ≤ 4294967296; omega) | (dsimp only; omega) | (show (_ : Int) ≤ (_ : Int); omega) | (show _ < List.length _; simp only [List.length_set, List.length_append, List.length_take]; omega) | (show wantB _ _ = true; simp <;> omega) | (show (_ : Bool) = _; simp_all; done) | (exfalso; omega) | refine aRegion_auto (by decide +kernel) ?_ | fail))
    · refine reverse_any _ ws n a1 b1 (by omega) (by omega) h2 (by omega) _ fun us u1 => ?_
      obtain ⟨p', hp'⟩ : ∃ p' : Nat, p' = b1 - 1 - (p - a1) := ⟨_, rfl⟩
      obtain ⟨hi1, ehi⟩ : ∃ z : Int, z = 1 := ⟨_, rfl⟩
      (repeat' (first | exact trivial | exact fun h => h | refine And.intro ?_ ?_ | (intro hb; try simp at hb) | omega | exact rfl | exact Nat.le_refl _ | (show _ + 1 ≤ 4294967296; omega) | (dsimp only; omega) | (show (_ : Int) ≤ (_ : Int); omega) | (show _ < List.length _; simp only [List.length_set, List.length_append, List.length_take]; omega) | (show wantB _ _ = true; simp <;> omega) | (show (_ : Bool) = _; simp_all; done) | (exfalso; omega) | refine aRegion_auto (by decide +kernel) ?_ | fail))
      refine ⟨[(0, .ref 0 0 n), (1, .fz int a1), (2, .fz int b1), (3, .fz int l), (8, .fz .bool wb), (9, .fz .bool wp), (10, .fz int ((b1 : Int) - a1)), (11, .fz int p'), (12, .fz int hi1)], [.row int us], Ent.sub rfl ?_, hc.out us p' hi1 ⟨hsw.trans u1, by show a1 ≤ p'; omega, by show p' < b1; omega⟩⟩
      (repeat' (first | exact trivial | exact rfl | refine And.intro ?_ ?_))
      · exact congrArg (AV.fz int) (show (b1 : Int) - 1 - ((p : Int) - a1) = p' by omega)
      · exact congrArg (AV.fz int) ehi.symm
    · refine ⟨[(0, .ref 0 0 n), (1, .fz int a1), (2, .fz int b1), (3, .fz int l), (8, .fz .bool wb), (9, .fz .bool wp), (10, .fz int ((b1 : Int) - a1)), (11, .fz int p), (12, .fz int hi)], [.row int ws], Ent.sub rfl ?_, hc.out ws p hi ⟨hsw, p1, p2⟩⟩
      (repeat' (first | exact trivial | exact rfl | refine And.intro ?_ ?_))
  clear hsw hlw p1 p2
  intro us p' hint ⟨hsu, q1, q2⟩
  have q1 : a1 ≤ p' := q1
  have q2 : p' < b1 := q2
  have hlu := hsu.len
  apply merge1 (fun vs => Pdq.SP 0 a1 b1 ys vs)
  · intro hc
    (repeat' (first | exact trivial | exact fun h => h | refine And.intro ?_ ?_ | (intro hb; try simp at hb) | omega | exact rfl | exact Nat.le_refl _ | (show _ + 1 ≤ 4294967296; omega) | (dsimp only; omega) | (show (_ : Int) ≤ (_ : Int); omega) | (show _ < List.length _; simp only [List.length_set, List.length_append, List.length_take]; omega) | (show wantB _ _ = true; simp <;> omega) | (show (_ : Bool) = _; simp_all; done) | (exfalso; omega) | refine aRegion_auto (by decide +kernel) ?_ | fail))
    · refine partialIns_any _ us n a1 b1 (by omega) (by omega) (by omega) (by omega) (hpr.sp hsu) _ fun vs q v1 v2 => ?_
      (repeat' (first | exact trivial | exact fun h => h | refine And.intro ?_ ?_ | (intro hb; try simp at hb) | omega | exact rfl | exact Nat.le_refl _ | (show _ + 1 ≤ 4294967296; omega) | (dsimp only; omega) | (show (_ : Int) ≤ (_ : Int); omega) | (show _ < List.length _; simp only [List.length_set, List.length_append, List.length_take]; omega) | (show wantB _ _ = true; simp <;> omega) | (show (_ : Bool) = _; simp_all; done) | (exfalso; omega) | refine aRegion_auto (by decide +kernel) ?_ | fail))
      · exact ⟨_, _, REnt.refl _ _ _, hK vs (hsp.trans ((hsu.trans v1).wide h1 h3 (by omega))) ((har.sp h1 h3 (hsu.trans v1)).done (v2 hb))⟩
      · refine ⟨[(0, .ref 0 0 n), (1, .fz int a1), (2, .fz int b1), (3, .fz int l), (8, .fz .bool wb), (9, .fz .bool wp), (10, .fz int ((b1 : Int) - a1)), (11, .fz int p'), (12, .fz int hint)], [.row int vs], Ent.sub rfl ?_, hc.out vs (hsu.trans v1)⟩
        (repeat' (first | exact trivial | exact rfl | refine And.intro ?_ ?_))
    all_goals refine ⟨[(0, .ref 0 0 n), (1, .fz int a1), (2, .fz int b1), (3, .fz int l), (8, .fz .bool wb), (9, .fz .bool wp), (10, .fz int ((b1 : Int) - a1)), (11, .fz int p'), (12, .fz int hint)], [.row int us], Ent.sub rfl ?_, hc.out us hsu⟩
    all_goals (repeat' (first | exact trivial | exact rfl | refine And.intro ?_ ?_))
  clear hsu hlu
  intro vs hsv
  have hlv := hsv.len
  have harv := har.sp h1 h3 hsv
  have hprv := hpr.sp hsv
  by_cases ha0 : 0 < a1
  · (repeat' (first | exact trivial | exact fun h => h | refine And.intro ?_ ?_ | (intro hb; try simp at hb) | omega | exact rfl | exact Nat.le_refl _ | (show _ + 1 ≤ 4294967296; omega) | (dsimp only; omega) | (show (_ : Int) ≤ (_ : Int); omega) | (show _ < List.length _; simp only [List.length_set, List.length_append, List.length_take]; omega) | (show wantB _ _ = true; simp <;> omega) | (show (_ : Bool) = _; simp_all; done) | (exfalso; omega) | refine aRegion_auto (by decide +kernel) ?_ | fail))
    apply exEff
    · refine ⟨fun _ => ?_, fun h => absurd h (by simp; omega)⟩
      (repeat' (first | refine And.intro ?_ ?_ | (show wantB _ _ = true; simp; omega)))
      refine acall_frame0 rfl (less_int _ _ _ _ ?_)
      exact ⟨rfl, rfl⟩
    (repeat' (first | exact trivial | exact fun h => h | refine And.intro ?_ ?_ | (intro hb; try simp at hb) | omega | exact rfl | exact Nat.le_refl _ | (show _ + 1 ≤ 4294967296; omega) | (dsimp only; omega) | (show (_ : Int) ≤ (_ : Int); omega) | (show _ < List.length _; simp only [List.length_set, List.length_append, List.length_take]; omega) | (show wantB _ _ = true; simp <;> omega) | (show (_ : Bool) = _; simp_all; done) | (exfalso; omega) | refine aRegion_auto (by decide +kernel) ?_ | fail))
    · have hb2 := hb.2
      rw [get_q, get_q] at hb2
      have hge : ∀ k, a1 ≤ k → k < b1 → Pdq.le ltI (vs.getD p' 0) (vs.getD k 0) := fun k k1 k2 => by
        rcases hprv with h0 | h0
        · omega
        · exact Pdq.le_trans ltI_ok hb2 (h0 k k1 k2)
      refine partitionEqual_any _ vs n a1 b1 p' (by omega) (by omega) q1 q2 (by omega) _ fun us m u1 u2 u3 => ?_
      have hspu := hsp.trans ((hsv.trans u1).wide h1 h3 (by omega))
      have haru := harv.sp h1 h3 u1
      have m1 := u2.1
      have m2 := u2.2.1
      (repeat' (first | exact trivial | exact fun h => h | refine And.intro ?_ ?_ | (intro hb; try simp at hb) | omega | exact rfl | exact Nat.le_refl _ | (show _ + 1 ≤ 4294967296; omega) | (dsimp only; omega) | (show (_ : Int) ≤ (_ : Int); omega) | (show _ < List.length _; simp only [List.length_set, List.length_append, List.length_take]; omega) | (show wantB _ _ = true; simp <;> omega) | (show (_ : Bool) = _; simp_all; done) | (exfalso; omega) | refine aRegion_auto (by decide +kernel) ?_ | fail))
      refine ⟨(us, m, b1, l, wb, wp), ⟨by show a ≤ m; omega, m2, h3, hl4, hspu, haru.parE ltI_ok u2 ?_, .parE ltI_ok u2⟩, by show b1 - m < b1 - a1; omega, Ent.sub rfl ?_⟩
      · rw [u3]
        exact u1.all (P := fun z => Pdq.le ltI (vs.getD p' 0) z) hge
      · (repeat' (first | exact trivial | exact rfl | refine And.intro ?_ ?_))
    · clear hb
      refine partition_any _ vs n a1 b1 p' (by omega) (by omega) q1 q2 (by omega) _ fun us m q u1 u2 => ?_
      have hspu := hsp.trans ((hsv.trans u1).wide h1 h3 (by omega))
      have haru := harv.sp h1 h3 u1
      have hpru := hprv.sp u1
      have hlu := u1.len
      have m1 := u2.1
      have m2 := u2.2.1
      have h8 : 0 ≤ Int.tdiv ((b1 : Int) - a1) 8 ∧ Int.tdiv ((b1 : Int) - a1) 8 ≤ 1000000000 := by rw [Int.tdiv_eq_ediv_of_nonneg (by omega)]; omega
      (repeat' (first | exact trivial | exact fun h => h | refine And.intro ?_ ?_ | (intro hb; try simp at hb) | omega | exact rfl | exact Nat.le_refl _ | (show _ + 1 ≤ 4294967296; omega) | (dsimp only; omega) | (show (_ : Int) ≤ (_ : Int); omega) | (show _ < List.length _; simp only [List.length_set, List.length_append, List.length_take]; omega) | (show wantB _ _ = true; simp <;> omega) | (show (_ : Bool) = _; simp_all; done) | (exfalso; omega) | refine aRegion_auto (by decide +kernel) ?_ | fail))
      · obtain ⟨wb', hwb⟩ : ∃ wb' : Bool, wb' = decide (Int.tdiv ((b1 : Int) - a1) 8 ≤ (m : Int) - a1) := ⟨_, rfl⟩
        refine ih (m - a1) (by omega) us n a1 m l rfl (by omega) hs m1 (by omega) hl4 (hpru.less (by omega)) _ fun zs z1 z2 => ?_
        have z1' : Pdq.SP 0 a1 b1 us zs := z1.wide (Nat.le_refl _) (by omega) (by omega)
        have z3 := u2.left ltI_ok z1
        (repeat' (first | exact trivial | exact fun h => h | refine And.intro ?_ ?_ | (intro hb; try simp at hb) | omega | exact rfl | exact Nat.le_refl _ | (show _ + 1 ≤ 4294967296; omega) | (dsimp only; omega) | (show (_ : Int) ≤ (_ : Int); omega) | (show _ < List.length _; simp only [List.length_set, List.length_append, List.length_take]; omega) | (show wantB _ _ = true; simp <;> omega) | (show (_ : Bool) = _; simp_all; done) | (exfalso; omega) | refine aRegion_auto (by decide +kernel) ?_ | fail))
        refine ⟨(zs, m + 1, b1, l, wb', q), ⟨by show a ≤ m + 1; omega, by show m + 1 ≤ b1; omega, h3, hl4, hspu.trans (z1'.wide h1 h3 (by omega)), (haru.sp h1 h3 z1').par_left ltI_ok z3 z2, .par z3⟩, by show b1 - (m + 1) < b1 - a1; omega, Ent.sub rfl ?_⟩
        (repeat' (first | exact trivial | exact rfl | refine And.intro ?_ ?_))
        exact congrArg (AV.fz .bool) hwb.symm
      · obtain ⟨wb', hwb⟩ : ∃ wb' : Bool, wb' = decide (Int.tdiv ((b1 : Int) - a1) 8 ≤ (b1 : Int) - m) := ⟨_, rfl⟩
        refine acall_arg (ih (b1 - (m + 1)) (by omega) us n (m + 1) b1 l rfl (by omega) hs (by omega) (by omega) hl4 (.par u2) _ fun zs z1 z2 => ?_) (congrArg (fun z => [AV.ref 0 0 n, AV.fz int z, AV.fz int b1, AV.fz int l]) (show ((m + 1 : Nat) : Int) = (m : Int) + 1 by omega))
        have z1' : Pdq.SP 0 a1 b1 us zs := z1.wide (by omega) (Nat.le_refl _) (by omega)
        have z3 := u2.right z1
        (repeat' (first | exact trivial | exact fun h => h | refine And.intro ?_ ?_ | (intro hb; try simp at hb) | omega | exact rfl | exact Nat.le_refl _ | (show _ + 1 ≤ 4294967296; omega) | (dsimp only; omega) | (show (_ : Int) ≤ (_ : Int); omega) | (show _ < List.length _; simp only [List.length_set, List.length_append, List.length_take]; omega) | (show wantB _ _ = true; simp <;> omega) | (show (_ : Bool) = _; simp_all; done) | (exfalso; omega) | refine aRegion_auto (by decide +kernel) ?_ | fail))
        refine ⟨(zs, a1, m, l, wb', q), ⟨h1, m1, by show m ≤ b; omega, hl4, hspu.trans (z1'.wide h1 h3 (by omega)), (haru.sp h1 h3 z1').par_right ltI_ok z3 z2, (hpru.sp z1').less (Nat.le_of_lt m2)⟩, by show m - a1 < b1 - a1; omega, Ent.sub rfl ?_⟩
        (repeat' (first | exact trivial | exact rfl | refine And.intro ?_ ?_))
        exact congrArg (AV.fz .bool) hwb.symm
  · (repeat' (first | exact trivial | exact fun h => h | refine And.intro ?_ ?_ | (intro hb; try simp at hb) | omega | exact rfl | exact Nat.le_refl _ | (show _ + 1 ≤ 4294967296; omega) | (dsimp only; omega) | (show (_ : Int) ≤ (_ : Int); omega) | (show _ < List.length _; simp only [List.length_set, List.length_append, List.length_take]; omega) | (show wantB _ _ = true; simp <;> omega) | (show (_ : Bool) = _; simp_all; done) | (exfalso; omega) | refine aRegion_auto (by decide +kernel) ?_ | fail))
    apply exEff
    · refine ⟨fun h => absurd h (by simp; omega), fun _ => ⟨rfl, rfl⟩⟩
    (repeat' (first | exact trivial | exact fun h => h | refine And.intro ?_ ?_ | (intro hb; try simp at hb) | omega | exact rfl | exact Nat.le_refl _ | (show _ + 1 ≤ 4294967296; omega) | (dsimp only; omega) | (show (_ : Int) ≤ (_ : Int); omega) | (show _ < List.length _; simp only [List.length_set, List.length_append, List.length_take]; omega) | (show wantB _ _ = true; simp <;> omega) | (show (_ : Bool) = _; simp_all; done) | (exfalso; omega) | refine aRegion_auto (by decide +kernel) ?_ | fail))
    all_goals first | exact decide_eq_false (by omega) | skip
    refine partition_any _ vs n a1 b1 p' (by omega) (by omega) q1 q2 (by omega) _ fun us m q u1 u2 => ?_
    have hspu := hsp.trans ((hsv.trans u1).wide h1 h3 (by omega))
    have haru := harv.sp h1 h3 u1
    have hpru := hprv.sp u1
    have hlu := u1.len
    have m1 := u2.1
    have m2 := u2.2.1
    have h8 : 0 ≤ Int.tdiv ((b1 : Int) - a1) 8 ∧ Int.tdiv ((b1 : Int) - a1) 8 ≤ 1000000000 := by rw [Int.tdiv_eq_ediv_of_nonneg (by omega)]; omega
    (repeat' (first | exact trivial | exact fun h => h | refine And.intro ?_ ?_ | (intro hb; try simp at hb) | omega | exact rfl | exact Nat.le_refl _ | (show _ + 1 ≤ 4294967296; omega) | (dsimp only; omega) | (show (_ : Int) ≤ (_ : Int); omega) | (show _ < List.length _; simp only [List.length_set, List.length_append, List.length_take]; omega) | (show wantB _ _ = true; simp <;> omega) | (show (_ : Bool) = _; simp_all; done) | (exfalso; omega) | refine aRegion_auto (by decide +kernel) ?_ | fail))
    · obtain ⟨wb', hwb⟩ : ∃ wb' : Bool, wb' = decide (Int.tdiv ((b1 : Int) - a1) 8 ≤ (m : Int) - a1) := ⟨_, rfl⟩
      refine ih (m - a1) (by omega) us n a1 m l rfl (by omega) hs m1 (by omega) hl4 (hpru.less (by omega)) _ fun zs z1 z2 => ?_
      have z1' : Pdq.SP 0 a1 b1 us zs := z1.wide (Nat.le_refl _) (by omega) (by omega)
      have z3 := u2.left ltI_ok z1
      (repeat' (first | exact trivial | exact fun h => h | refine And.intro ?_ ?_ | (intro hb; try simp at hb) | omega | exact rfl | exact Nat.le_refl _ | (show _ + 1 ≤ 4294967296; omega) | (dsimp only; omega) | (show (_ : Int) ≤ (_ : Int); omega) | (show _ < List.length _; simp only [List.length_set, List.length_append, List.length_take]; omega) | (show wantB _ _ = true; simp <;> omega) | (show (_ : Bool) = _; simp_all; done) | (exfalso; omega) | refine aRegion_auto (by decide +kernel) ?_ | fail))
      refine ⟨(zs, m + 1, b1, l, wb', q), ⟨by show a ≤ m + 1; omega, by show m + 1 ≤ b1; omega, h3, hl4, hspu.trans (z1'.wide h1 h3 (by omega)), (haru.sp h1 h3 z1').par_left ltI_ok z3 z2, .par z3⟩, by show b1 - (m + 1) < b1 - a1; omega, Ent.sub rfl ?_⟩
      (repeat' (first | exact trivial | exact rfl | refine And.intro ?_ ?_))
      exact congrArg (AV.fz .bool) hwb.symm
    · obtain ⟨wb', hwb⟩ : ∃ wb' : Bool, wb' = decide (Int.tdiv ((b1 : Int) - a1) 8 ≤ (b1 : Int) - m) := ⟨_, rfl⟩
      refine acall_arg (ih (b1 - (m + 1)) (by omega) us n (m + 1) b1 l rfl (by omega) hs (by omega) (by omega) hl4 (.par u2) _ fun zs z1 z2 => ?_) (congrArg (fun z => [AV.ref 0 0 n, AV.fz int z, AV.fz int b1, AV.fz int l]) (show ((m + 1 : Nat) : Int) = (m : Int) + 1 by omega))
      have z1' : Pdq.SP 0 a1 b1 us zs := z1.wide (by omega) (Nat.le_refl _) (by omega)
      have z3 := u2.right z1
      (repeat' (first | exact trivial | exact fun h => h | refine And.intro ?_ ?_ | (intro hb; try simp at hb) | omega | exact rfl | exact Nat.le_refl _ | (show _ + 1 ≤ 4294967296; omega) | (dsimp only; omega) | (show (_ : Int) ≤ (_ : Int); omega) | (show _ < List.length _; simp only [List.length_set, List.length_append, List.length_take]; omega) | (show wantB _ _ = true; simp <;> omega) | (show (_ : Bool) = _; simp_all; done) | (exfalso; omega) | refine aRegion_auto (by decide +kernel) ?_ | fail))
      refine ⟨(zs, a1, m, l, wb', q), ⟨h1, m1, by show m ≤ b; omega, hl4, hspu.trans (z1'.wide h1 h3 (by omega)), (haru.sp h1 h3 z1').par_right ltI_ok z3 z2, (hpru.sp z1').less (Nat.le_of_lt m2)⟩, by show m - a1 < b1 - a1; omega, Ent.sub rfl ?_⟩
      (repeat' (first | exact trivial | exact rfl | refine And.intro ?_ ?_))
      exact congrArg (AV.fz .bool) hwb.symm
end Go.Proofs.YtgjjooophigkoaaGreatDoor
/-
  Lakes: slices.Sort; which cells are wet and not gone yet.
-/
namespace Go.Proofs.YtgjjooophigkoaaGreatDoor
open Go Go.Ab
set_option maxRecDepth 100000
theorem sort_any (G : List (Nat × Value)) (xs : List Int) (n : Nat) (hn : xs.length = n) (hs : n ≤ 128) (K : AV → List AO → Prop) (hK : ∀ ys : List Int, ys.Perm xs → ys.Pairwise (· ≤ ·) → K (.tup []) [.row int ys]) :
    ACall Tryz.prog G 63 [.ref 0 0 n] [.row int xs] K := by
  have hw : IntKind.wrap .u64 (n : Int) = n := by
    clear hK
    have := hs
    clear hs hn
    revert n
    decide +kernel
  have hbl : bl n ≤ 64 := by
    clear hK hw hn
    revert n
    decide +kernel
  refine acall_mk (E := envAt G 11 1) (envOk _ _ _) Tryz.func63 rfl rfl rfl rfl rfl ?_
  (repeat' (first | exact trivial | exact fun h => h | refine And.intro ?_ ?_ | (intro hb; try simp at hb) | omega | exact rfl | exact Nat.le_refl _ | (show _ + 1 ≤ 4294967296; omega) | (dsimp only; omega) | (show (_ : Int) ≤ (_ : Int); omega) | (show _ < List.length _; simp only [List.length_set, List.length_append, List.length_take]; omega) | (show wantB _ _ = true; simp <;> omega) | (show (_ : Bool) = _; simp_all; done) | (exfalso; omega) | refine aRegion_auto (by decide +kernel) ?_ | fail))
  refine acall_frame0 rfl (acall_arg (bitsLen_any _ n (by omega) _ ?_) (congrArg (fun z => [AV.fz (.int .u64) z]) hw.symm))
  (repeat' (first | exact trivial | exact fun h => h | refine And.intro ?_ ?_ | (intro hb; try simp at hb) | omega | exact rfl | exact Nat.le_refl _ | (show _ + 1 ≤ 4294967296; omega) | (dsimp only; omega) | (show (_ : Int) ≤ (_ : Int); omega) | (show _ < List.length _; simp only [List.length_set, List.length_append, List.length_take]; omega) | (show wantB _ _ = true; simp <;> omega) | (show (_ : Bool) = _; simp_all; done) | (exfalso; omega) | refine aRegion_auto (by decide +kernel) ?_ | fail))
  refine pdq_any _ n xs n 0 n (bl n) (by omega) hn hs (Nat.zero_le _) (Nat.le_refl _) hbl (.inl rfl) _ fun ys y1 y2 => ?_
  (repeat' (first | exact trivial | exact fun h => h | refine And.intro ?_ ?_ | (intro hb; try simp at hb) | omega | exact rfl | exact Nat.le_refl _ | (show _ + 1 ≤ 4294967296; omega) | (dsimp only; omega) | (show (_ : Int) ≤ (_ : Int); omega) | (show _ < List.length _; simp only [List.length_set, List.length_append, List.length_take]; omega) | (show wantB _ _ = true; simp <;> omega) | (show (_ : Bool) = _; simp_all; done) | (exfalso; omega) | refine aRegion_auto (by decide +kernel) ?_ | fail))
  refine ⟨_, _, REnt.refl _ _ _, hK ys y1.perm (Lk.srt_pair fun i j i1 i2 i3 => ?_)⟩
  have := y2 i j i1 i2 (by rw [← hn, ← y1.len]; exact i3)
  simpa [Pdq.le, ltI] using this
def lstb (n : Nat) (f : Nat → Bool) : List Bool := (List.range n).map f
theorem lstb_len (n : Nat) (f : Nat → Bool) : (lstb n f).length = n := by simp [lstb]
theorem lstb_at {n i : Nat} (f : Nat → Bool) (h : i < n) : (lstb n f).getD i false = f i := by simp [lstb, List.getD, h]
theorem lstb_congr {n : Nat} {f g : Nat → Bool} (h : ∀ i, i < n → f i = g i) : lstb n f = lstb n g := List.map_congr_left fun i hi => h i (List.mem_range.1 hi)
theorem lstb_set {n i : Nat} (f : Nat → Bool) (v : Bool) : List.set (lstb n f) i v = lstb n (fun j => if j = i then v else f j) := by
  apply List.ext_getElem
  · simp [lstb]
  · intro j h1 h2
    simp only [lstb, List.getElem_set, List.getElem_map, List.getElem_range]
    by_cases e : i = j
    · subst e; simp
    · rw [if_neg e, if_neg (fun h => e h.symm)]
theorem lstb_zero (n : Nat) : List.replicate n false = lstb n (fun _ => false) := by
  apply List.ext_getElem
  · simp [lstb]
  · intro j h1 h2
    simp [lstb]
/-- what the lakes' rule looks at: the full raster, the raster, which cells are gone -/
abbrev lkA (a : Ras) (n : Nat) (W H : Int) (fl : Nat → Int) (g : List Bool) : List AO := [.box [.ref 3 0 n], .box [.fz int W, .fz int H, .fz (.list int) (lst n fl)], .box [.fz int a.1, .fz int a.2.1, .fz (.list int) a.2.2], .row .bool g]
def wetF (a : Ras) (fl : Nat → Int) (j : Nat) : Bool := decide (hts a j < fl j)
end Go.Proofs.YtgjjooophigkoaaGreatDoor
/-
  slices.SortFunc at basin.Pass: the library's contract laid here.
-/
namespace Go.Proofs
open Go.Shelf
def Tryz.sortPass_ren : Go.Shelf.Ren := ⟨fun | 6 => 59 | 14 => 103 | 15 => 88 | 20 => 136 | 21 => 137 | 22 => 138 | 23 => 139 | 24 => 140 | 25 => 141 | 26 => 142 | 27 => 143 | 28 => 118 | 29 => 119 | 46 => 179 | 47 => 154 | 48 => 155 | 49 => 180 | 50 => 181 | 57 => 200 | n => n, fun | 0 => 0 | 3 => 3 | 4 => 4 | 5 => 5 | 9 => 9 | 22 => 54 | 24 => 68 | 25 => 125 | 39 => 140 | 45 => 173 | 46 => 174 | 50 => 65 | 53 => 83 | 55 => 80 | 66 => 215 | 70 => 218 | 76 => 264 | 77 => 94 | n => n, fun | n => n⟩
theorem Tryz.sortPass : Go.Proofs.SlLaysF0.n6 Tryz.prog Tryz.sortPass_ren := {
  mixed := by kernel_rfl
  f6 := .intro "slices.SortFunc[[]mercator/basin.Pass,mercator/basin.Pass]" ⟨by decide, Tryz.func59.trans (congrArg some (by kernel_rfl))⟩
  f14 := .intro "slices.pdqsortCmpFunc[mercator/basin.Pass]" ⟨by decide, Tryz.func103.trans (congrArg some (by kernel_rfl))⟩
  f15 := Tryz.func88.trans (congrArg some (by kernel_rfl))
  f20 := .intro "slices.insertionSortCmpFunc[mercator/basin.Pass]" ⟨by decide, Tryz.func136.trans (congrArg some (by kernel_rfl))⟩
  f21 := .intro "slices.heapSortCmpFunc[mercator/basin.Pass]" ⟨by decide, Tryz.func137.trans (congrArg some (by kernel_rfl))⟩
  f22 := .intro "slices.breakPatternsCmpFunc[mercator/basin.Pass]" ⟨by decide, Tryz.func138.trans (congrArg some (by kernel_rfl))⟩
  f23 := .intro "slices.choosePivotCmpFunc[mercator/basin.Pass]" ⟨by decide, Tryz.func139.trans (congrArg some (by kernel_rfl))⟩
  f24 := .intro "slices.reverseRangeCmpFunc[mercator/basin.Pass]" ⟨by decide, Tryz.func140.trans (congrArg some (by kernel_rfl))⟩
  f25 := .intro "slices.partialInsertionSortCmpFunc[mercator/basin.Pass]" ⟨by decide, Tryz.func141.trans (congrArg some (by kernel_rfl))⟩
  f26 := .intro "slices.partitionEqualCmpFunc[mercator/basin.Pass]" ⟨by decide, Tryz.func142.trans (congrArg some (by kernel_rfl))⟩
  f27 := .intro "slices.partitionCmpFunc[mercator/basin.Pass]" ⟨by decide, Tryz.func143.trans (congrArg some (by kernel_rfl))⟩
  f28 := Tryz.func118.trans (congrArg some (by kernel_rfl))
  f29 := Tryz.func119.trans (congrArg some (by kernel_rfl))
  f46 := .intro "slices.siftDownCmpFunc[mercator/basin.Pass]" ⟨by decide, Tryz.func179.trans (congrArg some (by kernel_rfl))⟩
  f47 := Tryz.func154.trans (congrArg some (by kernel_rfl))
  f48 := Tryz.func155.trans (congrArg some (by kernel_rfl))
  f49 := .intro "slices.medianAdjacentCmpFunc[mercator/basin.Pass]" ⟨by decide, Tryz.func180.trans (congrArg some (by kernel_rfl))⟩
  f50 := .intro "slices.medianCmpFunc[mercator/basin.Pass]" ⟨by decide, Tryz.func181.trans (congrArg some (by kernel_rfl))⟩
  f57 := .intro "slices.order2CmpFunc[mercator/basin.Pass]" ⟨by decide, Tryz.func200.trans (congrArg some (by kernel_rfl))⟩
  t0 := Tryz.underlying0
  a0 := Tryz.isAgg0
  z0 := Tryz.sizeOf0
  v0 := Tryz.zeroValue0
  t3 := Tryz.underlying3
  a3 := Tryz.isAgg3
  z3 := Tryz.sizeOf3
  v3 := Tryz.zeroValue3
  t4 := Tryz.underlying4
  a4 := Tryz.isAgg4
  z4 := Tryz.sizeOf4
  v4 := Tryz.zeroValue4
  t5 := Tryz.underlying5
  a5 := Tryz.isAgg5
  z5 := Tryz.sizeOf5
  v5 := Tryz.zeroValue5
  t9 := Tryz.underlying9
  a9 := Tryz.isAgg9
  z9 := Tryz.sizeOf9
  v9 := Tryz.zeroValue9
  t22 := Tryz.underlying54
  a22 := Tryz.isAgg54
  z22 := Tryz.sizeOf54
  v22 := Tryz.zeroValue54
  t25 := Tryz.underlying125
  a25 := Tryz.isAgg125
  z25 := Tryz.sizeOf125
  v25 := Tryz.zeroValue125
  t39 := Tryz.underlying140
  a39 := Tryz.isAgg140
  z39 := Tryz.sizeOf140
  v39 := Tryz.zeroValue140
  t45 := Tryz.underlying173
  a45 := Tryz.isAgg173
  z45 := Tryz.sizeOf173
  v45 := Tryz.zeroValue173
  t46 := Tryz.underlying174
  a46 := Tryz.isAgg174
  z46 := Tryz.sizeOf174
  v46 := Tryz.zeroValue174
  t50 := Tryz.underlying65
  a50 := Tryz.isAgg65
  z50 := Tryz.sizeOf65
  v50 := Tryz.zeroValue65
  t53 := Tryz.underlying83
  a53 := Tryz.isAgg83
  z53 := Tryz.sizeOf83
  v53 := Tryz.zeroValue83
  t55 := Tryz.underlying80
  a55 := Tryz.isAgg80
  z55 := Tryz.sizeOf80
  v55 := Tryz.zeroValue80
  t66 := Tryz.underlying215
  a66 := Tryz.isAgg215
  z66 := Tryz.sizeOf215
  v66 := Tryz.zeroValue215
  t70 := Tryz.underlying218
  a70 := Tryz.isAgg218
  z70 := Tryz.sizeOf218
  v70 := Tryz.zeroValue218
  t76 := Tryz.underlying264
  a76 := Tryz.isAgg264
  z76 := Tryz.sizeOf264
  v76 := Tryz.zeroValue264
  t77 := Tryz.underlying94
  a77 := Tryz.isAgg94
  z77 := Tryz.sizeOf94
  v77 := Tryz.zeroValue94 }
end Go.Proofs
/-
  What a machine has drawn never falls: so a call that comes back has drawn no less.
-/
namespace Go.Ab
open Go
def resW {α : Type} : Result α → World
  | .ok _ w => w
  | .halt _ w => w
theorem ask_ge {α : Type} : ∀ (a : Ask α) (w : World), w.drawn ≤ (w.ask a).2.drawn := by
  intro a
  induction a with
  | done a => intro w; exact Nat.le_refl _
  | ask what range k ih =>
    intro w
    unfold World.ask
    simp only
    split
    · exact ih 0 w
    · exact Nat.le_trans (Nat.le_succ _) (ih _ { w with drawn := w.drawn + 1 })
theorem sys_ge (c : Sys) (w : World) : w.drawn ≤ (w.sys c).2.drawn := by
  have h := ask_ge (Kernel.perform c w.os) w
  unfold World.sys
  split
  · exact Nat.le_refl _
  · rename_i h2; rw [h2] at h; exact h
theorem viewStore_eq {p : Program} {w : World} {at_ : Addr} {u : TypeId} {k : Addr} {v : Value} {b : Bool} {r : World × List Addr} (h : w.viewStore p at_ u k v b = .ok r) : r.1.drawn = w.drawn := by
  unfold World.viewStore at h
  simp only [bind, Except.bind, pure, Except.pure] at h
  repeat' (split at h)
  all_goals first | (cases h; done) | (cases h; rfl)
theorem farStore_eq {p : Program} {w : World} {a : Addr} {v : Value} {b : Bool} {r : World × List Addr} (h : w.farStore p a v b = .ok r) : r.1.drawn = w.drawn := by
  unfold World.farStore at h
  split at h
  · split at h
    · cases h; rename_i h; exact viewStore_eq h
    · cases h
  · cases h
theorem freeze_dr (w : World) (a : Addr) (n : Nat) : (w.freeze a n).drawn = w.drawn := by
  unfold World.freeze; split <;> rfl
theorem run_ge {α : Type} (p : Program) : ∀ (s : Sem α) (w : World), w.drawn ≤ (resW (s.run p w)).drawn := by
  intro s
  induction s with
  | pure a => intro w; exact Nat.le_refl _
  | load m a k ih =>
    intro w; unfold Sem.run; split
    · exact ih _ w
    · split
      · exact ih _ w
      · exact Nat.le_refl _
  | store m a v k ih =>
    intro w
    cases v <;> (unfold Sem.run; first | exact Nat.le_refl _ | skip)
    all_goals (split; · (split; exact Nat.le_refl _; exact ih (w.setCell a _)))
    all_goals (split; · (rename_i h; exact Nat.le_trans (Nat.le_of_eq (farStore_eq h).symm) (ih _)))
    all_goals exact Nat.le_refl _
  | new o k ih => intro w; exact ih w.heap.size { w with heap := w.heap.push o }
  | shape r k ih => intro w; exact ih _ _
  | freeze a n k ih => intro w; exact Nat.le_trans (Nat.le_of_eq (freeze_dr w a n).symm) (ih (w.freeze a n))
  | frozen a k ih => intro w; exact ih _ _
  | getObj r k ih =>
    intro w; unfold Sem.run; split
    · exact Nat.le_refl _
    · exact ih _ w
    · exact Nat.le_refl _
  | setObj r o k ih =>
    intro w; unfold Sem.run; split
    · exact Nat.le_refl _
    · exact ih { w with heap := w.heap.setIfInBounds r o }
    · exact Nat.le_refl _
  | choose q k ih =>
    intro w; unfold Sem.run; split
    · exact ih _ w
    · exact Nat.le_trans (Nat.le_succ _) (ih _ { w with drawn := w.drawn + 1 })
  | sys c k ih => intro w; exact Nat.le_trans (sys_ge c w) (ih _ _)
  | program k ih => intro w; exact ih _ _
  | mark m k ih => intro w; exact ih w
  | halt h => intro w; exact Nat.le_refl _
theorem runT_ge {α : Type} (p : Program) : ∀ (s : Sem α) (w : World) (es : Array Event), w.drawn ≤ (resW (s.runT p w es).1).drawn := by
  intro s
  induction s with
  | pure a => intro w es; exact Nat.le_refl _
  | load m a k ih =>
    intro w es; unfold Sem.runT; split
    · exact ih _ w _
    · split
      · exact ih _ w _
      · exact Nat.le_refl _
  | store m a v k ih =>
    intro w es
    cases v <;> (unfold Sem.runT; first | exact Nat.le_refl _ | skip)
    all_goals (split; · (split; exact Nat.le_refl _; exact ih (w.setCell a _) _))
    all_goals (split; · (rename_i h; exact Nat.le_trans (Nat.le_of_eq (farStore_eq h).symm) (ih _ _)))
    all_goals exact Nat.le_refl _
  | new o k ih => intro w es; exact ih w.heap.size { w with heap := w.heap.push o } es
  | shape r k ih => intro w es; exact ih _ _ _
  | freeze a n k ih => intro w es; exact Nat.le_trans (Nat.le_of_eq (freeze_dr w a n).symm) (ih (w.freeze a n) es)
  | frozen a k ih => intro w es; exact ih _ _ _
  | getObj r k ih =>
    intro w es; unfold Sem.runT; split
    · exact Nat.le_refl _
    · exact ih _ w _
    · exact Nat.le_refl _
  | setObj r o k ih =>
    intro w es; unfold Sem.runT; split
    · exact Nat.le_refl _
    · exact ih { w with heap := w.heap.setIfInBounds r o } _
    · exact Nat.le_refl _
  | choose q k ih =>
    intro w es; unfold Sem.runT; split
    · exact ih _ w _
    · exact Nat.le_trans (Nat.le_succ _) (ih _ { w with drawn := w.drawn + 1 } _)
  | sys c k ih => intro w es; exact Nat.le_trans (sys_ge c w) (ih _ _ _)
  | program k ih => intro w es; exact ih _ _ _
  | mark m k ih => intro w es; exact ih w _
  | halt h => intro w es; exact Nat.le_refl _
theorem run_ok {α : Type} {p : Program} {s : Sem α} {w w' : World} {a : α} (h : s.run p w = .ok a w') : w.drawn ≤ w'.drawn := by
  have := run_ge p s w; rw [h] at this; exact this
theorem run_halt {α : Type} {p : Program} {s : Sem α} {w w' : World} {a : Halt} (h : s.run p w = .halt a w') : w.drawn ≤ w'.drawn := by
  have := run_ge p s w; rw [h] at this; exact this
theorem runT_is {α : Type} {p : Program} {s : Sem α} {w : World} {es es' : Array Event} {r : Result α} (h : s.runT p w es = (r, es')) : w.drawn ≤ (resW r).drawn := by
  have := runT_ge p s w es; rw [h] at this; exact this
def gOk (d : Nat) : GStep → Prop
  | .go _ w _ => d ≤ w.drawn
  | .comm _ _ _ _ w _ => d ≤ w.drawn
  | .spawn _ _ w _ => d ≤ w.drawn
  | .count _ w _ => d ≤ w.drawn
  | .timer _ _ w _ => d ≤ w.drawn
  | .alone _ _ w _ => d ≤ w.drawn
  | .newcoro _ _ _ w _ => d ≤ w.drawn
  | .coroswitch _ _ _ w _ => d ≤ w.drawn
  | .collect _ w _ => d ≤ w.drawn
  | .watch _ w _ => d ≤ w.drawn
  | .ended _ _ _ => True
theorem gOk_after {d : Nat} {es : Array Event} {s : GStep} (h : gOk d s) : gOk d (GStep.after es s) := by cases s <;> exact h
theorem gOk_mono {d d' : Nat} (hd : d ≤ d') {s : GStep} (h : gOk d' s) : gOk d s := by
  cases s <;> first | exact trivial | exact Nat.le_trans hd h
theorem gOk_ite {c : Prop} [Decidable c] {d : Nat} {a b : GStep} (ha : gOk d a) (hb : gOk d b) : gOk d (if c then a else b) := by split; exact ha; exact hb
theorem dieOf_ok (fr : Frame) (a : List ByteArray) (m : String) (b : Bool) (w : World) : gOk w.drawn (dieOf fr a m b w) := Nat.le_refl _
theorem endThrow_ok (fr : Frame) (m : String) (w : World) : gOk w.drawn (endThrow fr m w) := Nat.le_refl _
theorem endWith_ok (w : World) (fd : Nat) (t : ByteArray) (o : Outcome) (d : Nat) : gOk d (endWith w fd t o) := by
  unfold endWith
  simp only
  split <;> (try split) <;> trivial
theorem endPrinting_ok (p : Program) (fr : Frame) (v : Value) (w : World) : gOk w.drawn (endPrinting p fr v w) := by
  unfold endPrinting
  simp only
  split
  · exact endThrow_ok _ _ _
  · trivial
theorem endFatal_ok (p : Program) (fr : Frame) (cs : List Frame) (dy : Option Dying) (m : String) (w : World) : gOk w.drawn (endFatal p fr cs dy m w) := by
  unfold endFatal
  simp only
  split
  · rename_i h
    exact gOk_mono (run_ok h) (dieOf_ok _ _ _ _ _)
  · trivial
  · trivial
theorem writeOn_ok (p : Program) (fr : Frame) (d : Dying) (f : Fatal) (w : World) : gOk w.drawn (writeOn p fr d f w) := by
  unfold writeOn
  simp only
  split
  · trivial
  · split <;> first | trivial | (rename_i h; exact runT_is h)
theorem die_ok (p : Program) (fr : Frame) (d : Dying) (w : World) : gOk w.drawn (die p fr d w) := by
  unfold die
  simp only
  split
  · exact writeOn_ok _ _ _ _ _
  · split
    · split
      · exact Nat.le_refl _
      · exact endWith_ok _ _ _ _ _
    · split
      · exact Nat.le_refl _
      · split
        · rename_i h; exact run_ok h
        · trivial
      · rename_i t recv name _
        generalize hx : Sem.runT p (invoke (.fn (.method name) #[]) #[.iface t recv]) w #[] = x
        obtain ⟨r, es⟩ := x
        have h := runT_is hx
        refine gOk_after ?_
        simp only
        split <;> first | trivial | exact h | exact gOk_mono h (endPrinting_ok _ _ _ _)
      · trivial
theorem doReturn_ok (p : Program) (main : Bool) (fr : Frame) (cs : List Frame) (dy : Option Dying) (v : Value) (w : World) : gOk w.drawn (doReturn p main fr cs dy v w) := by
  unfold doReturn
  simp only
  repeat' split
  all_goals first | trivial | exact Nat.le_refl _
theorem callDeferred_ok (p : Program) (fr : Frame) (cs : List Frame) (dy : Option Dying) (d : Deferred) (w : World) : gOk w.drawn (callDeferred p fr cs dy d w) := by
  unfold callDeferred
  refine gOk_ite trivial ?_
  generalize hx : Sem.runT p (invoke d.target d.args) w #[] = x
  obtain ⟨r, es⟩ := x
  have h := runT_is hx
  refine gOk_after ?_
  split <;> first | trivial | exact h | exact gOk_mono h (endFatal_ok _ _ _ _ _ _) | exact gOk_mono h (endThrow_ok _ _ _) | skip
  all_goals (split <;> first | trivial | exact h)
theorem unwind_ok (p : Program) (main : Bool) (fr : Frame) (cs : List Frame) (dy : Option Dying) (w : World) : gOk w.drawn (unwind p main fr cs dy w) := by
  unfold unwind
  split
  · simp only
    refine gOk_after ?_
    have h := runT_ge p (Instr.takeDeferred ‹Nat›) w #[]
    split
    · rename_i h2; rw [h2] at h; exact h
    · trivial
  · exact callDeferred_ok _ _ _ _ _ _
  · split
    · trivial
    · split
      · trivial
      · split
        · exact Nat.le_refl _
        · split
          · split
            · exact Nat.le_refl _
            · split
              · rename_i h; exact run_ok h
              · trivial
              · trivial
          · split
            · exact endPrinting_ok _ _ _ _
            · trivial
    · split
      · exact doReturn_ok _ _ _ _ _ _ _
      · rename_i fn _
        simp only
        refine gOk_after ?_
        have h := runT_ge p (results fn fr.tmps) w #[]
        split
        · rename_i h2; rw [h2] at h; exact gOk_mono h (doReturn_ok _ _ _ _ _ _ _)
        · trivial
        · trivial
theorem early_ok (p : Program) (fr : Frame) (cs : List Frame) (dy : Option Dying) (g : Nat) (w : World) : gOk w.drawn (early p fr cs dy g w) := by
  unfold early
  simp only
  repeat' split
  all_goals first | trivial | exact Nat.le_refl _ | skip
  · rename_i h _ _ _ _
    have h2 := run_ok h
    exact h2
  · rename_i h
    have h2 := run_ok h
    exact h2
theorem run_is {α : Type} {p : Program} {s : Sem α} {w : World} {r : Result α} (h : s.run p w = r) : w.drawn ≤ (resW r).drawn := by
  have := run_ge p s w; rw [h] at this; exact this
theorem apply_ok (p : Program) (listen : Bool) (fr : Frame) (cs : List Frame) (dy : Option Dying) (s : Sem Next) (w : World) : gOk w.drawn (stepG.apply p listen fr cs dy s w) := by
  obtain ⟨x, hx⟩ : ∃ x, (if listen then s.runT p w #[] else (s.run p w, #[])) = x := ⟨_, rfl⟩
  obtain ⟨r, es⟩ := x
  have h : w.drawn ≤ (resW r).drawn := by
    split at hx
    · exact runT_is hx
    · cases hx; exact run_ge p s w
  unfold stepG.apply
  rw [hx]
  clear hx
  refine gOk_after ?_
  dsimp only
  split <;> first | trivial | exact h | exact gOk_mono h (endFatal_ok _ _ _ _ _ _) | exact gOk_mono h (endThrow_ok _ _ _) | exact gOk_mono h (early_ok _ _ _ _ _ _) | skip
  all_goals first | (refine gOk_mono h (gOk_ite ?_ ?_); exact endThrow_ok _ _ _; exact Nat.le_refl _) | (split <;> first | trivial | exact h)
theorem oper_ok (p : Program) (listen : Bool) (fr : Frame) (cs : List Frame) (dy : Option Dying) (w : World) : gOk w.drawn (stepG.oper p listen fr cs dy w) := by
  unfold stepG.oper
  split
  · trivial
  · split <;> exact apply_ok _ _ _ _ _ _ _
theorem exec_ok (p : Program) (main listen : Bool) (fr : Frame) (cs : List Frame) (dy : Option Dying) (w : World) : gOk w.drawn (stepG.exec p main listen fr cs dy w) := by
  have hround : ∀ (l : Nat) (jump : Option Code), gOk w.drawn (match Sem.runT p (Instr.endRound l jump) w #[] with
      | (r, es) => GStep.after (seen p fr.fn es) (match r with
        | .ok v w => doReturn p main fr cs dy v w
        | .halt _ w => .ended (.stuck "range over a function: no such loop" (fr.pos p)) w)) := by
    intro l jump
    generalize hx : Sem.runT p (Instr.endRound l jump) w #[] = x
    obtain ⟨r, es⟩ := x
    have h := runT_is hx
    refine gOk_after ?_
    split
    · exact gOk_mono h (doReturn_ok _ _ _ _ _ _ _)
    · trivial
  unfold stepG.exec
  dsimp only
  split
  case h_1 =>
    split
    · exact Nat.le_refl _
    · exact hround _ _
  case h_2 =>
    split
    · exact Nat.le_refl _
    · exact hround _ _
  all_goals first | exact Nat.le_refl _ | trivial | exact apply_ok _ _ _ _ _ _ _ | skip
  · split
    · exact Nat.le_refl _
    · trivial
  · rename_i id k _
    cases exitTo id k with
    | some t => exact Nat.le_refl _
    | none =>
      show gOk w.drawn (match fr.roundOf with | none => _ | some l => _)
      split
      · trivial
      · exact hround _ _
  · rename_i id k _
    cases gotoIn id k with
    | some t => exact Nat.le_refl _
    | none =>
      show gOk w.drawn (match fr.roundOf with | none => _ | some l => _)
      split
      · trivial
      · exact hround _ _
  · rename_i f params assign body k _
    have h := runT_ge p (Instr.enterLoop fr.fn fr.tmps params assign body fr.roundOf) w #[]
    refine gOk_after ?_
    generalize (Sem.runT p (Instr.enterLoop fr.fn fr.tmps params assign body fr.roundOf) w #[]).fst = r at h
    split
    · exact gOk_mono h (apply_ok _ _ _ _ _ _ _)
    · trivial
  · rename_i l k _
    have h := runT_ge p (Instr.endLoop l) w #[]
    refine gOk_after ?_
    generalize (Sem.runT p (Instr.endLoop l) w #[]).fst = r at h
    split
    · exact h
    · exact h
    · trivial
  · rename_i row args tail _
    cases Extern.next row with
    | none => trivial
    | some e => exact apply_ok _ _ _ _ _ _ _
  · rename_i id ops draw k _
    split
    · exact Nat.le_refl _
    · split
      · rename_i h
        have h2 := run_ok h
        exact h2
      · trivial
  · split
    · exact oper_ok _ _ _ _ _ _
    · exact Nat.le_refl _
theorem stepG_ok (p : Program) (main listen : Bool) (g : Goroutine) (w : World) : gOk w.drawn (stepG p main g w listen) := by
  unfold stepG
  dsimp only
  split
  · exact die_ok _ _ _ _
  · exact exec_ok _ _ _ _ _ _ _
  · exact unwind_ok _ _ _ _ _ _
def sOk (d : Nat) : Stepped → Prop
  | .next m => d ≤ m.world.drawn
  | .ended _ _ => True
theorem sOk_mono {d d' : Nat} (hd : d ≤ d') {s : Stepped} (h : sOk d' s) : sOk d s := by
  cases s <;> first | exact trivial | exact Nat.le_trans hd h
theorem waitingAt_eq {rest : Rest} {cases : Array CommCase} {w w' : World} (h : waitingAt rest cases w = some w') : w'.drawn = w.drawn := by
  unfold waitingAt at h
  split at h
  · split at h
    · cases h; rfl
    · cases h
  · cases h; rfl
theorem communicate_ok (p : Program) (rest : Rest) (gs : Array Goroutine) (i : Nat) (g : Goroutine) (cases : Array CommCase) (b : Bool) (sh : CommShape) (w : World) : sOk w.drawn (communicate p rest gs i g cases b sh w).1 := by
  unfold communicate
  dsimp only
  split
  · trivial
  · split
    · split
      · split
        · rename_i h; exact Nat.le_of_eq (waitingAt_eq h).symm
        · trivial
      · exact Nat.le_refl _
    · split
      · trivial
      · rename_i h0
        have h := run_ok h0
        clear h0
        split
        · split
          · rename_i h2; exact Nat.le_trans h (run_halt h2)
          · trivial
        · exact h
        · exact h
        · split
          · exact h
          · split
            · rename_i h2; have h2 := run_ok h2; exact Nat.le_trans h h2
            · trivial
        · exact h
        · exact h
        · trivial
theorem look_ok (p : Program) (gs : Array Goroutine) (rest : Rest) (w : World) : sOk w.drawn (look p gs rest w) := by
  unfold look
  dsimp only
  split
  · split
    · trivial
    · split
      · trivial
      · split
        · rename_i h; have h := run_ok h; exact h
        · trivial
        · trivial
  · trivial
theorem serve_ok (p : Program) (m : Machine) (k : Nat) : sOk m.world.drawn (serve p m k) := by
  unfold serve
  dsimp only
  split
  · trivial
  · exact Nat.le_refl _
  · split
    · trivial
    · exact Nat.le_refl _
theorem drain_eq (w : World) (c : Nat) : (drain w c).2.drawn = w.drawn := by
  unfold drain; split <;> rfl
theorem retime_eq (m : Machine) (k : Nat) (t : Timer) (a b : Nat) : (retime m k t a b).2.world.drawn = m.world.drawn := by
  unfold retime
  dsimp only
  split
  · exact drain_eq _ _
  · rfl
theorem named_eq {m m' : Machine} {a : Addr} {f : Nat → Timer → Value × Machine} {v : Value} {d : Nat} (hf : ∀ k t, (f k t).2.world.drawn = d) (h : timerOp.named m a f = .ok (v, m')) : m'.world.drawn = d := by
  unfold timerOp.named at h
  split at h
  · have h := Except.ok.inj h
    have := hf ‹Nat› (m.rest.timers.getD ‹Nat› default)
    rw [h] at this; exact this
  · cases h
theorem opened_eq {m m' : Machine} {a : Addr} (h : timerOp.opened m a = some m') : m'.world.drawn = m.world.drawn := by
  unfold timerOp.opened at h
  split at h
  · split at h
    · cases h; rfl
    · cases h
  · cases h; rfl
theorem timerOp_eq {m m' : Machine} {op : TimerOp} {v : Value} (h : timerOp m op = .ok (v, m')) : m'.world.drawn = m.world.drawn := by
  unfold timerOp at h
  split at h
  · split at h
    · cases h; rfl
    · split at h
      · split at h
        · cases h
        · cases h; rfl
      · cases h
  · exact named_eq (fun k t => retime_eq _ _ _ _ _) h
  · split at h
    · rename_i h2
      exact (named_eq (fun k t => retime_eq _ _ _ _ _) h).trans (opened_eq h2)
    · cases h
  · cases h; rfl
theorem advance_eq (m : Machine) (t : Nat) : (m.advanceTo t).world.drawn = m.world.drawn := rfl
theorem runT_m_ok (p : Program) (m : Machine) (i : Nat) (l : Bool) : sOk m.world.drawn (Go.runT p m i l).1 := by
  unfold Go.runT
  have h := stepG_ok p (i == 0) l (m.gs.swapAt! i { (default : Goroutine) with status := .finished }).1 m.world
  dsimp only
  generalize stepG p (i == 0) (m.gs.swapAt! i { (default : Goroutine) with status := .finished }).1 m.world l = s at h ⊢
  cases s with
  | ended o w es => trivial
  | comm g cases b sh w es => exact sOk_mono h (communicate_ok _ _ _ _ _ _ _ _ _)
  | go g w es => exact h
  | spawn g c w es => exact h
  | count g w es => dsimp only; split; trivial; exact h
  | alone g on w es => exact h
  | collect g w es => exact sOk_mono h (look_ok _ _ _ _)
  | watch g w es => exact h
  | newcoro g c d w es => exact h
  | coroswitch g c e w es =>
    dsimp only
    split
    · exact h
    · exact h
    · trivial
  | timer g op w es =>
    dsimp only
    split
    · rename_i h2
      exact Nat.le_trans h (Nat.le_of_eq (timerOp_eq h2).symm)
    · exact h
    · trivial
    · trivial
def mOk (d : Nat) : Move → Prop
  | .goroutine m _ => d ≤ m.world.drawn
  | .machine s _ => sOk d s
theorem mOk_mono {d d' : Nat} (hd : d ≤ d') {s : Move} (h : mOk d' s) : mOk d s := by
  cases s
  · exact Nat.le_trans hd h
  · exact sOk_mono hd h
theorem askOn_ok (p : Program) (m : Machine) : mOk m.world.drawn (askOn p m) := by
  unfold askOn
  dsimp only
  have hpick : ∀ m' : Machine, m'.world.drawn = m.world.drawn ∨ m.world.drawn ≤ m'.world.drawn → mOk m.world.drawn (match (choose (.sched (runnable m.gs m.world.os.mono).length)).run p m'.world with
      | .halt _ w => Move.machine (.ended (.stuck "sched" "") w)
      | .ok k world =>
        if (runnable m.gs m.world.os.mono).length ≤ 1 then Move.goroutine { m' with world } ((runnable m.gs m.world.os.mono).getD k 0) else
        match (choose (.extern "sched.slice" 65536)).run p world with
        | .halt _ w => .machine (.ended (.stuck "sched.slice" "") w)
        | .ok n world => .goroutine { m' with world, rest := { m'.rest with slice := if n = 0 then none else some ((runnable m.gs m.world.os.mono).getD k 0, n) } } ((runnable m.gs m.world.os.mono).getD k 0)) := by
    intro m' hm
    have hm : m.world.drawn ≤ m'.world.drawn := by omega
    split
    · trivial
    · rename_i h0
      have h := run_ok h0
      clear h0
      split
      · exact Nat.le_trans hm h
      · split
        · trivial
        · rename_i h0
          have h2 := run_ok h0
          exact Nat.le_trans hm (Nat.le_trans h h2)
  split
  · trivial
  · rename_i k w1 h0
    have h := run_ok h0
    clear h0
    split
    · exact sOk_mono h (serve_ok _ _ _)
    · split
      · split
        · exact h
        · split
          · exact h
          · split <;> trivial
      · split
        · exact hpick { m with world := w1 } (.inr h)
        · split
          · trivial
          · rename_i w2 h0
            have h2 := run_ok h0
            exact hpick { m with world := w2 } (.inr (Nat.le_trans h h2))
          · rename_i h0
            have h2 := run_ok h0
            exact Nat.le_trans h h2
          · rename_i t _ _ k2 w2 h0
            have h2 := run_ok h0
            exact hpick (({ m with world := w2 } : Machine).advanceTo (t - (k2 + 1))) (.inr (Nat.le_trans h h2))
theorem ask_ok (p : Program) (m : Machine) : mOk m.world.drawn (ask p m) := by
  unfold ask
  split
  · split
    · trivial
    · rename_i h0
      have h := run_ok h0
      clear h0
      have hl := look_ok p m.gs m.rest ‹World›
      split
      · rename_i m1 h1
        rw [h1] at hl
        exact mOk_mono (Nat.le_trans h hl) (askOn_ok _ _)
      · exact sOk_mono h hl
    · rename_i h0
      have h := run_ok h0
      exact mOk_mono h (askOn_ok _ _)
  · exact askOn_ok _ _
theorem move_ok (p : Program) (m : Machine) : mOk m.world.drawn (move p m) := by
  unfold move
  dsimp only
  split
  · split
    · exact Nat.le_refl _
    · trivial
  · split
    · split
      · exact Nat.le_refl _
      · exact ask_ok _ _
    · exact ask_ok _ _
theorem step_ok (p : Program) (m : Machine) : sOk m.world.drawn (step p m) := by
  unfold step stepT
  have h := move_ok p m
  split
  · rename_i h0; rw [h0] at h; exact sOk_mono h (runT_m_ok _ _ _ _)
  · rename_i h0; rw [h0] at h; exact h
theorem steps_ok {p : Program} {m m' : Machine} (h : Steps p m m') : m.world.drawn ≤ m'.world.drawn := by
  obtain ⟨n, hn⟩ := h
  induction n generalizing m with
  | zero => cases hn; exact Nat.le_refl _
  | succ n ih =>
    have hs := step_ok p m
    unfold runN at hn
    split at hn
    · rename_i h0; rw [h0] at hs; exact Nat.le_trans hs (ih hn)
    · rename_i h0
      exact absurd hn (h0 m')
/-- a call that comes back has drawn no less -/
theorem calls_drawn {P : Program} {f : FuncId} {args : Array Value} {w : World} {R : Ending → World → Prop} (h : Calls P f args w R) :
    Calls P f args w fun e w' => R e w' ∧ ∀ v, e = .returned v → w.drawn ≤ w'.drawn := by
  intro cs
  obtain ⟨e, w', fr, h1, h2, h3, h4⟩ := h cs
  refine ⟨e, w', fr, ⟨h1, fun v hv => ?_⟩, h2, h3, h4⟩
  subst hv
  exact steps_ok h2
end Go.Ab
/-
  slices.SortFunc over a row of structs, by the library's contract: what compares is told by a contract without objects.
-/
namespace Go.Ab
open Go Go.Shelf Go.Sort Go.RowKit Go.Proofs
theorem grow_of {W w' : World} (hb : Below W.heap.size W w') (hd : W.drawn ≤ w'.drawn) : ∃ q os, w' = grow (W.drewN q) os := by
  refine ⟨w'.drawn - W.drawn, w'.heap.extract W.heap.size w'.heap.size, ?_⟩
  have hh : w'.heap = W.heap ++ w'.heap.extract W.heap.size w'.heap.size := by
    apply Array.ext_getElem?
    intro k
    rw [Array.getElem?_append]
    split
    · exact hb.block k ‹_›
    · rename_i h
      rw [Array.getElem?_extract]
      split
      · congr 1; omega
      · rw [Array.getElem?_eq_none]; omega
  obtain ⟨h1, h2, h3, _, _⟩ := hb
  cases w' with | mk heap tape drawn os output =>
  simp only at h1 h2 h3 hd hh
  unfold grow World.drewN
  simp only [World.mk.injEq]
  exact ⟨hh, h2, by omega, h1, h3⟩
/-- the row's objects are another's: what is left of a context -/
def Cx.out (c : Cx) (blk : Nat) (W : World) : Cx := ⟨c.ρ, [], fun b => c.X b ∨ b = blk, W, c.G⟩
theorem out_le {c : Cx} {blk : Nat} {o : AO} {W : World} (hA : c.A[0]? = some o) (hl : o.live = true) (hr : c.ρ 0 = some blk) (hW : ∀ b, b < c.w.heap.size → b ≠ blk → W.heap[b]? = c.w.heap[b]?) : Le 0 c (c.out blk W) := by
  refine ⟨fun b hI hb => ?_, fun t ht => absurd ht (Nat.not_lt_zero _), Nat.zero_le _⟩
  have hne : b ≠ blk := fun e => hI.2 0 ⟨o, hA, hl⟩ (by rw [hr, e])
  exact ⟨⟨fun h => h.elim hI.1 hne, fun t ⟨o', h1, _⟩ => by have h1 : ([] : List AO)[t]? = some o' := h1; simp at h1⟩, hW b hb hne⟩
theorem out_hr {c : Cx} (H : HR c) {blk : Nat} {o : AO} {W : World} (hA : c.A[0]? = some o) (hl : o.live = true) (hr : c.ρ 0 = some blk) (hs : c.w.heap.size ≤ W.heap.size) (hW : ∀ b, b < c.w.heap.size → b ≠ blk → W.heap[b]? = c.w.heap[b]?) : HR (c.out blk W) := by
  have hlt := H.lt ⟨o, hA, hl⟩ hr
  refine ⟨fun t b ⟨o', h1, _⟩ => ?_, fun t u b ⟨o', h1, _⟩ => ?_, fun t o' h1 => ?_, fun b hb => ?_, fun g v h => (H.glo g v h).mono (out_le hA hl hr hW).I⟩
  · have h1 : ([] : List AO)[t]? = some o' := h1
    simp at h1
  · have h1 : ([] : List AO)[t]? = some o' := h1
    simp at h1
  · have h1 : ([] : List AO)[t]? = some o' := h1
    simp at h1
  · rcases hb with hb | rfl
    · exact Nat.lt_of_lt_of_le (H.old b hb) hs
    · exact Nat.lt_of_lt_of_le hlt hs
theorem ext_below {c c' : Cx} (hA : c.A = []) (E : Ext c c') : Below c.w.heap.size c.w c'.w := by
  have hb : ∀ k, k < c.w.heap.size → c'.w.heap[k]? = c.w.heap[k]? := fun k hk => by
    by_cases hx : c.X k
    · exact E.far k hx
    · refine (E.le.I k ⟨hx, fun t ht => ?_⟩ hk).2
      obtain ⟨o, h1, _⟩ := ht
      rw [hA] at h1; simp at h1
  refine ⟨E.st.os, E.st.tape, E.st.output, ?_, hb⟩
  rcases Nat.lt_or_ge c'.w.heap.size c.w.heap.size with hlt | hge
  · have := hb c'.w.heap.size hlt
    rw [Array.getElem?_eq_none (Nat.le_refl _), Array.getElem?_eq_getElem hlt] at this
    cases this
  · exact hge
/-- how the data of a type lie, where nothing leads on -/
structure EncOk (e : Ty) (enc : e.den → List Value) : Prop where
  agg : e.isAgg = true
  fz : ∀ I w x cs, FzC I w e x cs ↔ cs = enc x
theorem EncOk.len {e : Ty} {enc : e.den → List Value} (h : EncOk e enc) (x : e.den) : (enc x).length = e.size :=
  FzC.len (I := fun _ => True) (w := default) e x _ ((h.fz _ _ _ _).2 rfl)
theorem EncOk.one {e : Ty} {enc : e.den → List Value} (h : EncOk e enc) (x : e.den) : ∀ v ∈ enc x, v.oneCell' = true := fun v hv => by
  have := FzC.cells1 (I := fun _ => True) (w := default) e x _ ((h.fz _ _ _ _).2 rfl) v hv
  cases v <;> first | rfl | cases this
theorem EncOk.val {e : Ty} {enc : e.den → List Value} (h : EncOk e enc) (x : e.den) : valOf e (enc x) = .agg (enc x).toArray := by
  unfold valOf; rw [if_pos h.agg]
section
variable {P : Program} {ρ : Ren} {G : List (Nat × Value)}
theorem cmp_lays {c : Cx} (H : HR c) (hG : c.G = G) {e : Ty} [Inhabited e.den] {enc : e.den → List Value} (he : EncOk e enc) {o : AO} {blk : Nat} (hA : c.A[0]? = some o) (hl : o.live = true) (hr : c.ρ 0 = some blk)
    {cf : e.den → e.den → Int} {g : Nat} (hg : hasBody P g) {caps : List AV} (hcap : okL 0 caps) (hc : ∀ x y K, K (.fz (.int .i64) (cf x y)) [] → ACall P G g ([.fz e x, .fz e y] ++ caps) [] K)
    {cb : List Value} (hcb : RelL c caps cb) (n : Nat) : CmpLays P g cb.toArray enc e.size cf blk 0 n c.w := by
  intro m os dk hs x y
  obtain ⟨W, hW⟩ : ∃ W, W = sortWorldK enc e.size c.w blk 0 m dk os := ⟨_, rfl⟩
  rw [← hW]
  have hheap : W.heap = (c.w.heap.modify blk (onCells (putCells id 0 (flatK enc e.size dk)))) ++ os := by rw [hW]; rfl
  have hsz : c.w.heap.size ≤ W.heap.size := by rw [hheap, Array.size_append, Array.size_modify]; omega
  have hsame : ∀ b, b < c.w.heap.size → b ≠ blk → W.heap[b]? = c.w.heap[b]? := fun b hb hne => by
    rw [hheap, Array.getElem?_append, if_pos (by rw [Array.size_modify]; exact hb), Array.getElem?_modify, if_neg (Ne.symm hne)]
  have H1 := out_hr H hA hl hr hsz hsame
  have hv : RelL (c.out blk W) ([.fz e x, .fz e y] ++ caps) ([valOf e (enc x), valOf e (enc y)] ++ cb) := by
    show RelL _ (.fz e x :: .fz e y :: caps) (_ :: _ :: cb)
    unfold RelL
    refine ⟨_, _, rfl, ?_, ?_⟩
    · unfold Rel; exact ⟨enc x, (he.fz _ _ _ _).2 rfl, rfl⟩
    · unfold RelL
      refine ⟨_, _, rfl, ?_, (RelL.mono (out_le hA hl hr hsame) caps cb hcap hcb)⟩
      unfold Rel; exact ⟨enc y, (he.fz _ _ _ _).2 rfl, rfl⟩
  have hrun := callsX_body ((hc x y (fun r A' => r = .fz (.int .i64) (cf x y) ∧ A' = []) ⟨rfl, rfl⟩).run (c.out blk W) H1 rfl hG _ hv) hg
  have ha : #[Value.agg (enc x).toArray, Value.agg (enc y).toArray] ++ cb.toArray = ([valOf e (enc x), valOf e (enc y)] ++ cb).toArray := by
    rw [he.val, he.val]; simp
  rw [ha]
  refine (calls_drawn hrun).mono fun ev w' ⟨⟨v, c', r, h1, h2, h3, h4, h5, h6, h7⟩, h8⟩ => ?_
  subst h6
  unfold Rel at h5
  obtain ⟨ds, q1, q2⟩ := h5
  have q1 : ds = [.int .i64 (cf x y)] := q1
  subst q1
  have q2 : v = .int .i64 (cf x y) := q2
  refine ⟨by rw [h1, q2], ?_⟩
  refine grow_of (W := W) ?_ (h8 v h1)
  rw [← h2]
  exact ext_below (c := c.out blk W) rfl h3
/-- a row as the library's sort holds it, read as the state's -/
theorem flat_at {e : Ty} [Inhabited e.den] {enc : e.den → List Value} (he : EncOk e enc) (d : Array e.den) {i j : Nat} (hi : i < d.size) (hj : j < (enc d[i]).length) : (flatK enc e.size d)[i * e.size + j]! = (enc d[i])[j] := by
  have hk := he.len d[i]
  have hjk : j < e.size := by omega
  have h1 : (i * e.size + j) / e.size = i := (blk_iff e.size i _ (by omega)).1 ⟨by omega, by omega⟩
  have h2 : (i * e.size + j) % e.size = j := by rw [Nat.mul_comm, Nat.mul_add_mod, Nat.mod_eq_of_lt hjk]
  have h3 : i * e.size + e.size ≤ d.size * e.size := by rw [← Nat.succ_mul]; exact Nat.mul_le_mul_right _ hi
  rw [get_flatK enc e.size d _ (by omega), h1, h2, getElem!_pos d i hi, getElem!_pos _ j hj]
theorem acall_sortK (L : SlLaysF0.n6 P ρ) {e : Ty} [Inhabited e.den] {enc : e.den → List Value} (he : EncOk e enc) (aE : ∀ w, (isAgg (ρ.t 24)).run P w = .ok true w) (zE : ∀ w, (Go.sizeOf (ρ.t 24)).run P w = .ok e.size w)
    {cf : e.den → e.den → Int} (hO : SWO (ltOf cf)) {g : Nat} (hg : hasBody P g) (eg : ∀ args w, (callFunc g args).run P w = .ok (.enter g args) w) {caps : List AV} (hcap : okL 0 caps)
    (hc : ∀ x y K, K (.fz (.int .i64) (cf x y)) [] → ACall P G g ([.fz e x, .fz e y] ++ caps) [] K) {f : FuncId} (hf : ρ.f 6 = f) (hfb : hasBody P f) (xs : List e.den) (n : Nat) (hn : xs.length = n) (hs : n < 4611686018427387904)
    (K : AV → List AO → Prop) (hK : ∀ ys : List e.den, ys.Perm xs → ys.Pairwise (fun p q => ltOf cf q p = false) → K (.tup []) [.row e ys]) : ACall P G f [.ref 0 0 n, .fn g caps] [.row e xs] K := by
  refine ⟨trivial, fun c H hA hG vs hv => .inl ⟨hfb, ?_⟩⟩
  have h0 : c.A[0]? = some (.row e xs) := by rw [hA]; rfl
  unfold RelL at hv
  obtain ⟨v, r, rfl, h1, hv⟩ := hv
  unfold RelL at hv
  obtain ⟨v2, r, rfl, h2, hv⟩ := hv
  unfold RelL at hv
  subst hv
  unfold Rel at h2
  obtain ⟨cb, rfl, hcb⟩ := h2
  unfold Rel at h1
  rw [h0] at h1
  rcases Nat.eq_zero_or_pos n with hn0 | hn0
  · -- no element
    subst hn0
    have hx : xs = [] := List.eq_nil_of_length_eq_zero hn
    have key : ∀ (p : Option Addr) (cap : Nat), v = .slice p 0 cap → Calls P f (List.toArray [v, .func (.func g) #[] cb.toArray]) c.w fun ev w' => ∃ v' c' r', ev = .returned v' ∧ c'.w = w' ∧ Ext c c' ∧ HR c' ∧ Rel c' r' v' ∧ K r' c'.A := by
      rintro p cap rfl
      rw [← hf]
      refine (AnyF.slices_SortFunc_none L p cap (.func (.func g) #[] cb.toArray) c.w).mono fun ev w' ⟨h3, h4⟩ => ?_
      subst h4
      refine ⟨_, c, .tup [], h3, rfl, Ext.refl c, H, ?_, ?_⟩
      · unfold Rel; exact ⟨[], rfl, by unfold RelL; rfl⟩
      · rw [hA, hx]; exact hK [] (by rw [hx]) List.Pairwise.nil
    rcases h1 with ⟨b, cap, cs, et, a, k1, k2, k3, k4, k5, k6⟩ | ⟨k1, k2, k3, p, k4⟩
    · exact key _ _ k2
    · exact key _ _ k4
  rcases h1 with ⟨b, cap, cs, et, a, k1, k2, k3, k4, k5, k6⟩ | ⟨k1, k2, k3, p, k4⟩
  rotate_left
  · omega
  have ha := k3 (by omega)
  rw [Nat.zero_mul] at ha
  subst ha k2
  have hob := H.obj 0 _ h0
  rw [k1] at hob
  obtain ⟨hob, _⟩ | ⟨b', cs', et', hb', hcs, hcells⟩ := hob
  · cases hob
  cases hb'
  rw [k5] at hcs; cases hcs
  have hblk : b < c.w.heap.size := H.lt ⟨_, h0, rfl⟩ k1
  have hlay := cmp_lays H hG he h0 rfl k1 hg hcap hc hcb n
  have hsz : xs.toArray.size = n := by simpa using hn
  have hH : HoldsK enc e.size c.w b 0 xs.toArray := by
    intro t ht
    rw [size_flatK] at ht
    have ht : t < xs.length * e.size := by simpa using ht
    have k0 : 0 < e.size := by rcases Nat.eq_zero_or_pos e.size with h | h; · rw [h] at ht; omega
                               · exact h
    have hi : t / e.size < xs.length := Nat.div_lt_of_lt_mul (by rwa [Nat.mul_comm] at ht)
    have hj : t % e.size < e.size := Nat.mod_lt _ k0
    obtain ⟨ds, d1, d2⟩ := hcells (t / e.size) hi
    rw [he.fz] at d1
    subst d1
    have hd := d2 (t % e.size) (by rw [he.len]; exact hj)
    rw [Nat.mul_comm, Nat.div_add_mod] at hd
    have hfl := flat_at he xs.toArray (i := t / e.size) (j := t % e.size) (by simpa using hi) (by rw [he.len]; exact hj)
    rw [Nat.mul_comm, Nat.div_add_mod] at hfl
    refine ⟨?_, ?_⟩
    · rw [Nat.zero_add, hfl]
      unfold World.cell?
      rw [k5]
      simpa using hd
    · unfold World.frozen?
      rw [k5]
      simp
  have hcall := AnyQ.slices_SortFunc L e.size aE zE enc he.len he.one cf hO g cb.toArray b 0 cap xs.toArray c.w eg (by rw [hsz]; exact hlay) hH hblk (by rw [hsz]; exact hs)
  rw [hsz, hf] at hcall
  refine hcall.mono fun ev w' ⟨h3, d', m, os, p1, p2, p3⟩ => ?_
  obtain ⟨q1, _, q3⟩ := p1
  have hd : d'.size = n := q1.trans hsz
  have hperm : d'.toList.Perm xs := by
    have e1 : d'.extract 0 n = d' := by rw [← hd]; exact Array.extract_size
    have e2 : xs.toArray.extract 0 n = xs.toArray := by rw [← hsz]; exact Array.extract_size
    rw [e1, e2] at q3
    exact q3
  have hsort : d'.toList.Pairwise (fun p q => ltOf cf q p = false) := by
    rw [List.pairwise_iff_getElem]
    intro i j hi hj hij
    have hj' : j < d'.size := by simpa using hj
    have h := p2 i j (Nat.zero_le _) hij (by omega)
    rw [getElem!_pos d' i (by omega), getElem!_pos d' j hj'] at h
    simpa using h
  obtain ⟨cs2, hcs2⟩ : ∃ cs2, putCells id 0 (flatK enc e.size d') cs = cs2 := ⟨_, rfl⟩
  have hcsz : cs2.size = cs.size := by rw [← hcs2]; simp [putCells]
  have hfit : n * e.size ≤ cs.size := Nat.le_trans (Nat.mul_le_mul_right _ (by omega)) k6
  have hob2 : ObjOk (c.wr 0 b cs2 (.row e d'.toList)) (some b) (.row e d'.toList) := by
    refine .inr ⟨b, cs2, et, rfl, setRow_heap c.w b _ cs2 et (0, 0) k5, fun i hi => ⟨enc d'.toList[i], (he.fz _ _ _ _).2 rfl, fun j hj => ?_⟩⟩
    have hi' : i < d'.size := by simpa using hi
    have hjk : j < e.size := by rw [← he.len d'.toList[i]]; exact hj
    have hlt : i * e.size + e.size ≤ n * e.size := by rw [← Nat.succ_mul]; exact Nat.mul_le_mul_right _ (by omega)
    have hfl := flat_at he d' (i := i) (j := j) hi' (by rw [he.len]; exact hjk)
    rw [← hcs2]
    unfold putCells
    rw [Array.getElem?_mapIdx, Array.getElem?_eq_getElem (by omega)]
    simp only [Option.map_some, id, Nat.zero_add, size_flatK, hd, Nat.sub_zero]
    rw [if_pos ⟨Nat.zero_le _, by omega⟩, hfl]
    simp
  have E1 := ext_wr (cs := cs2) (o' := .row e d'.toList) H h0 rfl k1 k5 hcsz
  have H1 := hr_wr (cs := cs2) (o' := .row e d'.toList) H h0 rfl k1 k5 hcsz hob2
  have hB : Below (c.wr 0 b cs2 (.row e d'.toList)).w.heap.size (c.wr 0 b cs2 (.row e d'.toList)).w w' := by
    have hw : w'.heap = (c.w.heap.modify b (onCells (putCells id 0 (flatK enc e.size d')))) ++ os := by rw [p3]; rfl
    have hs2 : (c.w.setRow b cs2).heap.size = c.w.heap.size := size_setRow _ _ _
    refine ⟨by rw [p3]; rfl, by rw [p3]; rfl, by rw [p3]; rfl, ?_, fun k hk => ?_⟩
    · show (c.w.setRow b cs2).heap.size ≤ _
      rw [hs2, hw, Array.size_append, Array.size_modify]; omega
    · have hk : k < (c.w.setRow b cs2).heap.size := hk
      rw [hs2] at hk
      show w'.heap[k]? = (c.w.setRow b cs2).heap[k]?
      rw [hw, Array.getElem?_append, if_pos (by rw [Array.size_modify]; exact hk), Array.getElem?_modify]
      by_cases hkb : b = k
      · subst hkb
        rw [if_pos rfl, setRow_heap c.w b _ cs2 et (0, 0) k5, k5]
        simp [onCells, hcs2]
      · rw [if_neg hkb, setRow_other c.w b k cs2 (Ne.symm hkb)]
  obtain ⟨E2, H2⟩ := below_ext H1 hB
  refine ⟨_, _, .tup [], h3, rfl, E1.trans E2, H2, ?_, ?_⟩
  · unfold Rel; exact ⟨[], rfl, by unfold RelL; rfl⟩
  · show K _ (c.A.set 0 (.row e d'.toList))
    rw [hA]
    exact hK _ hperm hsort
end
end Go.Ab
/-
  Passes in order: what compares two.
-/
namespace Go.Proofs.YtgjjooophigkoaaGreatDoor
open Go Go.Ab
set_option maxRecDepth 100000
abbrev PaT : Ty := .pair int (.pair int int)
namespace Ps
def sg (a b : Int) : Int := if a < b then -1 else if b < a then 1 else 0
def cmpP (x y : Pa) : Int := orI [sg x.1 y.1, sg x.2.1 y.2.1]
theorem sg_lt (a b : Int) : sg a b < 0 ↔ a < b := by unfold sg; split <;> (try split) <;> omega
theorem sg_eq (a b : Int) : sg a b = 0 ↔ a = b := by unfold sg; split <;> (try split) <;> omega
theorem cmpP_lt (x y : Pa) : cmpP x y < 0 ↔ Bf x y := by
  unfold cmpP Bf orI orI orI
  have a1 := sg_lt x.1 y.1
  have a2 := sg_eq x.1 y.1
  have b1 := sg_lt x.2.1 y.2.1
  split
  · omega
  · split <;> omega
end Ps
open Ps
theorem nan_any (G : List (Nat × Value)) (a : Int) (K : AV → List AO → Prop) (hK : K (.fz .bool false) []) : ACall Tryz.prog G 89 [.fz int a] [] K := by
  refine acall_mk (E := envAt G 6 0) (envOk _ _ _) Tryz.func89 rfl rfl rfl rfl rfl ?_
  (repeat' (first | exact trivial | exact fun h => h | refine And.intro ?_ ?_ | (intro hb; try simp at hb) | omega | exact rfl | exact Nat.le_refl _ | (show _ + 1 ≤ 4294967296; omega) | (dsimp only; omega) | (show (_ : Int) ≤ (_ : Int); omega) | (show _ < List.length _; simp only [List.length_set, List.length_append, List.length_take]; omega) | (show wantB _ _ = true; simp <;> omega) | (show (_ : Bool) = _; simp_all; done) | (exfalso; omega) | refine aRegion_auto (by decide +kernel) ?_ | fail))
  refine ⟨_, _, REnt.refl _ _ _, ?_⟩
  exact (congrArg (fun q => K (.fz .bool q) []) (by simp : (a != a) = false)).mpr hK
theorem compare_any (G : List (Nat × Value)) (a b : Int) (K : AV → List AO → Prop) (hK : K (.fz int (sg a b)) []) : ACall Tryz.prog G 40 [.fz int a, .fz int b] [] K := by
  refine acall_mk (E := envAt G 20 0) (envOk _ _ _) Tryz.func40 rfl rfl rfl rfl rfl ?_
  (repeat' (first | exact trivial | exact fun h => h | refine And.intro ?_ ?_ | (intro hb; try simp at hb) | omega | exact rfl | exact Nat.le_refl _ | (show _ + 1 ≤ 4294967296; omega) | (dsimp only; omega) | (show (_ : Int) ≤ (_ : Int); omega) | (show _ < List.length _; simp only [List.length_set, List.length_append, List.length_take]; omega) | (show wantB _ _ = true; simp <;> omega) | (show (_ : Bool) = _; simp_all; done) | (exfalso; omega) | refine aRegion_auto (by decide +kernel) ?_ | fail))
  refine acall_frame0 rfl (nan_any _ a _ ?_)
  (repeat' (first | exact trivial | exact fun h => h | refine And.intro ?_ ?_ | (intro hb; try simp at hb) | omega | exact rfl | exact Nat.le_refl _ | (show _ + 1 ≤ 4294967296; omega) | (dsimp only; omega) | (show (_ : Int) ≤ (_ : Int); omega) | (show _ < List.length _; simp only [List.length_set, List.length_append, List.length_take]; omega) | (show wantB _ _ = true; simp <;> omega) | (show (_ : Bool) = _; simp_all; done) | (exfalso; omega) | refine aRegion_auto (by decide +kernel) ?_ | fail))
  refine acall_frame0 rfl (nan_any _ b _ ?_)
  unfold sg at hK
  (repeat' (first | exact trivial | exact fun h => h | refine And.intro ?_ ?_ | (intro hb; try simp at hb) | omega | exact rfl | exact Nat.le_refl _ | (show _ + 1 ≤ 4294967296; omega) | (dsimp only; omega) | (show (_ : Int) ≤ (_ : Int); omega) | (show _ < List.length _; simp only [List.length_set, List.length_append, List.length_take]; omega) | (show wantB _ _ = true; simp <;> omega) | (show (_ : Bool) = _; simp_all; done) | (exfalso; omega) | refine aRegion_auto (by decide +kernel) ?_ | fail))
  all_goals refine ⟨_, _, REnt.refl _ _ _, ?_⟩
  · rw [if_pos hb] at hK; exact hK
  · rw [if_neg (by omega), if_pos hb] at hK; exact hK
  · rw [if_neg (by omega), if_neg (by omega)] at hK; exact hK
theorem cmpPass_any (G : List (Nat × Value)) (x y : Pa) (K : AV → List AO → Prop) (hK : K (.fz int (cmpP x y)) []) : ACall Tryz.prog G 60 [.fz PaT x, .fz PaT y] [] K := by
  refine acall_mk (E := envAt G 17 0) (envOk _ _ _) Tryz.func60 rfl rfl rfl rfl rfl ?_
  (repeat' (first | exact trivial | exact fun h => h | refine And.intro ?_ ?_ | (intro hb; try simp at hb) | omega | exact rfl | exact Nat.le_refl _ | (show _ + 1 ≤ 4294967296; omega) | (dsimp only; omega) | (show (_ : Int) ≤ (_ : Int); omega) | (show _ < List.length _; simp only [List.length_set, List.length_append, List.length_take]; omega) | (show wantB _ _ = true; simp <;> omega) | (show (_ : Bool) = _; simp_all; done) | (exfalso; omega) | refine aRegion_auto (by decide +kernel) ?_ | fail))
  apply exEff
  · refine acall_frame0 rfl (compare_any _ _ _ _ ?_)
    exact ⟨rfl, rfl⟩
  (repeat' (first | exact trivial | exact fun h => h | refine And.intro ?_ ?_ | (intro hb; try simp at hb) | omega | exact rfl | exact Nat.le_refl _ | (show _ + 1 ≤ 4294967296; omega) | (dsimp only; omega) | (show (_ : Int) ≤ (_ : Int); omega) | (show _ < List.length _; simp only [List.length_set, List.length_append, List.length_take]; omega) | (show wantB _ _ = true; simp <;> omega) | (show (_ : Bool) = _; simp_all; done) | (exfalso; omega) | refine aRegion_auto (by decide +kernel) ?_ | fail))
  apply exEff
  · refine acall_frame0 rfl (compare_any _ _ _ _ ?_)
    exact ⟨rfl, rfl⟩
  (apply exEff; focus (repeat' (first | exact ⟨rfl, rfl⟩ | exact trivial | refine And.intro ?_ ?_ | omega | exact Nat.le_refl _ | (show _ + 1 ≤ 4294967296; omega))))
  (repeat' (first | exact trivial | exact fun h => h | refine And.intro ?_ ?_ | (intro hb; try simp at hb) | omega | exact rfl | exact Nat.le_refl _ | (show _ + 1 ≤ 4294967296; omega) | (dsimp only; omega) | (show (_ : Int) ≤ (_ : Int); omega) | (show _ < List.length _; simp only [List.length_set, List.length_append, List.length_take]; omega) | (show wantB _ _ = true; simp <;> omega) | (show (_ : Bool) = _; simp_all; done) | (exfalso; omega) | refine aRegion_auto (by decide +kernel) ?_ | fail))
  apply exEff
  · refine acall_lend [.dat (.list int)] _ _ _ rfl ?_ rfl ?_
    · (repeat' (first | exact trivial | refine And.intro ?_ ?_ | (show _ ≤ _; omega) | (show _ ≤ _; simp; done)))
    refine acall_arg (or_any G [sg x.1 y.1, sg x.2.1 y.2.1] (by simp) _ ?_) rfl
    refine And.intro rfl ?_
    exact ⟨rfl, rfl⟩
  (repeat' (first | exact trivial | exact fun h => h | refine And.intro ?_ ?_ | (intro hb; try simp at hb) | omega | exact rfl | exact Nat.le_refl _ | (show _ + 1 ≤ 4294967296; omega) | (dsimp only; omega) | (show (_ : Int) ≤ (_ : Int); omega) | (show _ < List.length _; simp only [List.length_set, List.length_append, List.length_take]; omega) | (show wantB _ _ = true; simp <;> omega) | (show (_ : Bool) = _; simp_all; done) | (exfalso; omega) | refine aRegion_auto (by decide +kernel) ?_ | fail))
  refine ⟨_, _, REnt.drop ⟨rfl, rfl⟩, ?_⟩
  exact hK
end Go.Proofs.YtgjjooophigkoaaGreatDoor
/-
  slices.SortFunc over passes.
-/
namespace Go.Proofs.YtgjjooophigkoaaGreatDoor
open Go Go.Ab Ps Go.Sort Go.Proofs
set_option maxRecDepth 100000
instance : Inhabited PaT.den := ⟨((0 : Int), ((0 : Int), (0 : Int)))⟩
def encPa (x : PaT.den) : List Value := [.int .i64 x.1, .int .i64 x.2.1, .int .i64 x.2.2]
theorem encPa_ok : EncOk PaT encPa := ⟨rfl, fun I w x cs => by
  constructor
  · rintro ⟨l, r, rfl, h1, l2, r2, rfl, h2, h3⟩
    have h1 : l = [.int .i64 x.1] := h1
    have h2 : l2 = [.int .i64 x.2.1] := h2
    have h3 : r2 = [.int .i64 x.2.2] := h3
    subst h1 h2 h3; rfl
  · rintro rfl
    exact ⟨[_], [_, _], rfl, rfl, [_], [_], rfl, rfl, rfl⟩⟩
theorem cmpP_swo : SWO (ltOf cmpP) := by
  have h1 : ∀ x y : Pa, ltOf cmpP x y = true ↔ Bf x y := fun x y => by unfold ltOf; rw [decide_eq_true_iff, cmpP_lt]
  have h0 : ∀ x y : Pa, ltOf cmpP x y = false ↔ ¬ Bf x y := fun x y => by rw [← h1]; simp
  refine ⟨fun x => (h0 x x).2 (Bf.irrefl x), fun x y z a b => (h1 x z).2 ?_, fun x y z a b => (h0 x z).2 ?_⟩
  · have a := (h1 x y).1 a
    have b := (h1 y z).1 b
    unfold Bf at *; omega
  · have a := (h0 x y).1 a
    have b := (h0 y z).1 b
    unfold Bf at *; omega
theorem sortPass_any (G : List (Nat × Value)) (xs : List Pa) (n : Nat) (hn : xs.length = n) (hs : n < 1000000) (K : AV → List AO → Prop) (hK : ∀ ys : List Pa, ys.Perm xs → (ys.Pairwise fun p q => ¬ Bf q p) → K (.tup []) [.row PaT ys]) :
    ACall Tryz.prog G 59 [.ref 0 0 n, .fn 60 []] [.row PaT xs] K := by
  refine acall_sortK Tryz.sortPass encPa_ok Tryz.isAgg68 Tryz.sizeOf68 cmpP_swo ⟨_, Tryz.func60, rfl, rfl⟩ (enters_of Tryz.func60 (by kernel_rfl) rfl) (caps := []) trivial (fun x y K hK => cmpPass_any G x y K hK) rfl ⟨_, Tryz.func59, rfl, rfl⟩ xs n hn (by omega) K (fun ys h1 h2 => hK ys h1 (h2.imp fun {p q} h => ?_))
  intro hb
  unfold ltOf at h
  rw [decide_eq_false_iff_not, cmpP_lt] at h
  exact h hb
end Go.Proofs.YtgjjooophigkoaaGreatDoor
/-
  Passes between basins: the walk.
-/
namespace Go.Proofs.YtgjjooophigkoaaGreatDoor
open Go Go.Ab Ps
set_option maxRecDepth 100000
/-- the map as the state knows it -/
def mpO (bm clk : Nat) (S : List En) : AO := .mapo (.map bm clk (S.map fun e => (e.1, kv2 e.2.1.1 e.2.1.2))) (S.map fun e => .fz int e.2.2)
theorem okLB_fz {α : Type} (n : Nat) (t : Ty) (g : α → t.den) : ∀ S : List α, okLB n (S.map fun e => AV.fz t (g e)) = true
  | [] => rfl
  | e :: S => by rw [List.map_cons]; unfold okLB; rw [okLB_fz n t g S]; rfl
theorem mapL_fz {α : Type} (f : Nat → Nat) (t : Ty) (g : α → t.den) : ∀ S : List α, mapL f (S.map fun e => AV.fz t (g e)) = S.map fun e => AV.fz t (g e)
  | [] => rfl
  | e :: S => by rw [List.map_cons]; unfold mapL; rw [mapL_fz f t g S]; rfl
theorem max_eq {a b c d : Int} (h : a = c) (h' : b = d) : max a b = max c d := by rw [h, h']
theorem mp_same (f : Nat → Nat) (bm clk : Nat) (S : List En) : mapO f (mpO bm clk S) = mpO bm clk S := by
  show AO.mapo _ (mapL f _) = AO.mapo _ _
  rw [mapL_fz]
theorem mp_new (f : Nat → Nat) (bm clk : Nat) (S : List En) {x y v w : Int} (hv : v = w) :
    AO.mapo (.map bm (clk + 1) ((S.map fun e => (e.1, kv2 e.2.1.1 e.2.1.2)) ++ [(clk, kv2 x y)])) ((S.map fun e => AV.fz int e.2.2) ++ [.fz int v]) = mapO f (mpO bm (clk + 1) (S ++ [(clk, (x, y), w)])) := by
  rw [mp_same, hv]
  unfold mpO
  rw [List.map_append, List.map_append]; rfl
theorem mp_set (f : Nat → Nat) (bm clk : Nat) (S : List En) {j : Nat} {e : En} (hj : S[j]? = some e) {v w : Int} (hv : v = w) :
    AO.mapo (.map bm clk (S.map fun e => (e.1, kv2 e.2.1.1 e.2.1.2))) ((S.map fun e => AV.fz int e.2.2).set j (.fz int v)) = mapO f (mpO bm clk (S.set j (e.1, e.2.1, w))) := by
  rw [mp_same, hv]
  unfold mpO
  have h1 : (S.set j (e.1, e.2.1, w)).map (fun e => (e.1, kv2 e.2.1.1 e.2.1.2)) = S.map fun e => (e.1, kv2 e.2.1.1 e.2.1.2) := by
    apply List.ext_getElem?
    intro m
    simp only [List.getElem?_map, List.getElem?_set]
    by_cases hjm : j = m
    · subst hjm; rw [if_pos rfl, if_pos (get_lt hj), hj]; rfl
    · rw [if_neg hjm]
  rw [h1, List.map_set]
set_option maxHeartbeats 4000000 in
theorem passes_ok (E : Errs) (a : Ras) (hv : rerr a = 0) {w h : Nat} (R : RasN a w h) (hs : w * h ≤ 80) (b : Nat → Int) (hb : basQ a = lst (w * h) b) (hbb : ∀ i, i < w * h → 0 ≤ b i ∧ b i < 16384) (K : AV → List AO → Prop)
    (hK : ∀ L : List Pa, L.length ≤ 720 → PL b (hts a) (fun i k => i < w * h ∧ k ∈ arN w h i) L → K (.tup [.fz (.list PaT) L, .fz .raw .nilIface]) []) :
    ACall Tryz.prog (G8 E) 20 [.fz RasT a] [] K := by
  have hl := R.len
  have hwh := R.wh
  obtain ⟨n, hn⟩ : ∃ n, n = w * h := ⟨_, rfl⟩
  rw [← hn] at hl hwh hb hK hs hbb
  have hbl := lst_len n b
  let bA : AO := .box [.fz int a.1, .fz int a.2.1, .fz (.list int) a.2.2]
  refine acall_mk (E := envAt (G8 E) 105 0) (envOk _ _ _) Tryz.func20 rfl rfl rfl rfl rfl ?_
  (repeat' (first | exact trivial | exact fun h => h | refine And.intro ?_ ?_ | (intro hb; try simp at hb) | omega | exact rfl | exact Nat.le_refl _ | (show _ + 1 ≤ 4294967296; omega) | (dsimp only; omega) | (show (_ : Int) ≤ (_ : Int); omega) | (show _ < List.length _; simp only [List.length_set, List.length_append, List.length_take]; omega) | (show wantB _ _ = true; simp <;> omega) | (show (_ : Bool) = _; simp_all; done) | (exfalso; omega) | fail))
  refine acall_conv [.dat RasT] _ _ _ rfl trivial (acall_frame0 rfl (basins_one E a (by omega) _ ?_))
  rw [hv, hb]
  (repeat' (first | exact trivial | exact fun h => h | refine And.intro ?_ ?_ | (intro hb; try simp at hb) | omega | exact rfl | exact Nat.le_refl _ | (show _ + 1 ≤ 4294967296; omega) | (dsimp only; omega) | (show (_ : Int) ≤ (_ : Int); omega) | (show _ < List.length _; simp only [List.length_set, List.length_append, List.length_take]; omega) | (show wantB _ _ = true; simp <;> omega) | (show (_ : Bool) = _; simp_all; done) | (exfalso; omega) | fail))
  refine aact_make fun bm => ?_
  (repeat' (first | exact trivial | exact fun h => h | refine And.intro ?_ ?_ | (intro hb; try simp at hb) | omega | exact rfl | exact Nat.le_refl _ | (show _ + 1 ≤ 4294967296; omega) | (dsimp only; omega) | (show (_ : Int) ≤ (_ : Int); omega) | (show _ < List.length _; simp only [List.length_set, List.length_append, List.length_take]; omega) | (show wantB _ _ = true; simp <;> omega) | (show (_ : Bool) = _; simp_all; done) | (exfalso; omega) | fail))
  refine ⟨Nat × Nat × List En, fun x => ⟨[(1, .ptr 0 0), (4, .fz (.list int) (lst n b)), (6, .ptr 1 0), (27, .fz int n), (28, .fz int x.1)], [bA, mpO bm x.2.1 x.2.2]⟩, fun x => x.1 ≤ n ∧ PM b (hts a) (fun i k => i < x.1 ∧ k ∈ arN w h i) x.2.2 ∧ (∀ e ∈ x.2.2, e.1 < x.2.1) ∧ (x.2.2.map (·.1)).Nodup ∧ x.2.2.length ≤ 9 * x.1, fun x => n - x.1, (0, 0, []), ⟨Nat.zero_le _, PM.start.congr (fun i k => ⟨fun h => h.elim, fun h => by omega⟩), (fun e he => by cases he), List.nodup_nil, Nat.le_refl _⟩, Ent.sub ?_ ?_, ?_⟩
  · (repeat' (first | exact rfl | refine cons_eq ?_ ?_))
  · (repeat' (first | exact trivial | exact rfl | refine And.intro ?_ ?_))
    exact congrArg (fun z : Nat => AV.fz int (z : Int)) hbl
  rintro ⟨k, clk, S⟩ ⟨hk, hP, hC, hN, hZ⟩
  have hk : k ≤ n := hk
  have hP : PM b (hts a) (fun i m => i < k ∧ m ∈ arN w h i) S := hP
  have hC : ∀ e ∈ S, e.1 < clk := hC
  have hN : (S.map (·.1)).Nodup := hN
  have hZ : S.length ≤ 9 * k := hZ
  show awp _ _ _ ⟨[(1, .ptr 0 0), (4, .fz (.list int) (lst n b)), (6, .ptr 1 0), (27, .fz int n), (28, .fz int k)], [bA, mpO bm clk S]⟩
  by_cases hkn : k < n
  · (repeat' (first | exact trivial | exact fun h => h | refine And.intro ?_ ?_ | (intro hb; try simp at hb) | omega | exact rfl | exact Nat.le_refl _ | (show _ + 1 ≤ 4294967296; omega) | (dsimp only; omega) | (show (_ : Int) ≤ (_ : Int); omega) | (show _ < List.length _; simp only [List.length_set, List.length_append, List.length_take]; omega) | (show wantB _ _ = true; simp <;> omega) | (show (_ : Bool) = _; simp_all; done) | (exfalso; omega) | refine aRegion_auto (by decide +kernel) ?_ | fail))
    refine acall_conv [.dat RasT, .keep] _ _ _ rfl trivial (acall_frame0 rfl (acall_arg (cellsAround_any _ a R k (by omega) _ ?_) ?_))
    · obtain ⟨l, hl0⟩ : ∃ l, arN w h k = l := ⟨_, rfl⟩
      have hmem := (arN_mem w h k).2
      rw [hl0] at hmem ⊢
      obtain ⟨q, hq⟩ : ∃ q, q = l.length := ⟨_, rfl⟩
      have hq9 : q ≤ 9 := by rw [hq, ← hl0]; exact (arN_mem w h k).1
      have hnn : (natL l).length = q := by rw [natL_len, hq]
      (repeat' (first | exact trivial | exact fun h => h | refine And.intro ?_ ?_ | (intro hb; try simp at hb) | omega | exact rfl | exact Nat.le_refl _ | (show _ + 1 ≤ 4294967296; omega) | (dsimp only; omega) | (show (_ : Int) ≤ (_ : Int); omega) | (show _ < List.length _; simp only [List.length_set, List.length_append, List.length_take]; omega) | (show wantB _ _ = true; simp <;> omega) | (show (_ : Bool) = _; simp_all; done) | (exfalso; omega) | refine aRegion_auto (by decide +kernel) ?_ | fail))
      refine ⟨Nat × Nat × List En, fun x => ⟨[(1, .ptr 0 0), (4, .fz (.list int) (lst n b)), (6, .ptr 1 0), (27, .fz int n), (28, .fz int k), (7, .fz int k), (33, .fz (.list int) (natL l)), (34, .fz int q), (35, .fz int x.1)], [bA, mpO bm x.2.1 x.2.2]⟩, fun x => x.1 ≤ q ∧ PM b (hts a) (fun i m => (i < k ∧ m ∈ arN w h i) ∨ (i = k ∧ m ∈ l.take x.1)) x.2.2 ∧ (∀ e ∈ x.2.2, e.1 < x.2.1) ∧ (x.2.2.map (·.1)).Nodup ∧ x.2.2.length ≤ 9 * k + x.1, fun x => q - x.1, (0, clk, S), ⟨Nat.zero_le _, hP.congr (fun i m => by simp), hC, hN, hZ⟩, Ent.sub ?_ ?_, ?_⟩
      · (repeat' (first | exact rfl | refine cons_eq ?_ ?_))
      · (repeat' (first | exact trivial | exact rfl | refine And.intro ?_ ?_))
        exact congrArg (fun z : Nat => AV.fz int (z : Int)) hnn
      rintro ⟨p, clk2, S2⟩ ⟨hp, hP2, hC2, hN2, hZ2⟩
      have hp : p ≤ q := hp
      have hP2 : PM b (hts a) (fun i m => (i < k ∧ m ∈ arN w h i) ∨ (i = k ∧ m ∈ l.take p)) S2 := hP2
      have hC2 : ∀ e ∈ S2, e.1 < clk2 := hC2
      have hN2 : (S2.map (·.1)).Nodup := hN2
      have hZ2 : S2.length ≤ 9 * k + p := hZ2
      show awp _ _ _ ⟨[(1, .ptr 0 0), (4, .fz (.list int) (lst n b)), (6, .ptr 1 0), (27, .fz int n), (28, .fz int k), (7, .fz int k), (33, .fz (.list int) (natL l)), (34, .fz int q), (35, .fz int p)], [bA, mpO bm clk2 S2]⟩
      by_cases hpq : p < q
      · obtain ⟨m, hm⟩ : ∃ m, l[p]'(by omega) = m := ⟨_, rfl⟩
        have hml : m ∈ l := by rw [← hm]; exact List.getElem_mem _
        obtain ⟨hmn, _⟩ := (hmem m).1 hml
        rw [← hn] at hmn
        have g1 : (natL l).getD (Int.toNat (p : Int)) int.dft = (m : Int) := by
          rw [Int.toNat_natCast, List.getD, List.getElem?_eq_getElem (by omega)]
          show (natL l)[p]'(by omega) = (m : Int)
          simp [natL, hm]
        have g2 : (lst n b).getD (Int.toNat (k : Int)) int.dft = b k := by rw [Int.toNat_natCast, List.getD]; exact lst_get _ hkn
        have g3 : (lst n b).getD (Int.toNat ((natL l).getD (Int.toNat (p : Int)) int.dft)) int.dft = b m := by rw [g1, Int.toNat_natCast, List.getD]; exact lst_get _ hmn
        have g4 : a.2.2.getD (Int.toNat (k : Int)) int.dft = hts a k := by rw [Int.toNat_natCast]; rfl
        have g5 : a.2.2.getD (Int.toNat ((natL l).getD (Int.toNat (p : Int)) int.dft)) int.dft = hts a m := by rw [g1, Int.toNat_natCast]; rfl
        have k1 : (natL l)[p]?.getD int.dft = (m : Int) := by simpa using g1
        have k2 : (lst n b)[k]?.getD int.dft = b k := lst_get _ hkn
        have k3 : (lst n b)[Int.toNat ((natL l)[p]?.getD int.dft)]?.getD int.dft = b m := by rw [k1, Int.toNat_natCast]; exact lst_get _ hmn
        have htake : ∀ x, x ∈ l.take (p + 1) ↔ x ∈ l.take p ∨ x = m := fun x => by
          rw [List.take_add_one, List.getElem?_eq_getElem (by omega), hm]; simp
        have hQ : ∀ i x, (((i < k ∧ x ∈ arN w h i) ∨ (i = k ∧ x ∈ l.take p)) ∨ (i = k ∧ x = m)) ↔ ((i < k ∧ x ∈ arN w h i) ∨ (i = k ∧ x ∈ l.take (p + 1))) := fun i x => by
          rw [htake]
          constructor
          · rintro ((h | h) | h)
            · exact .inl h
            · exact .inr ⟨h.1, .inl h.2⟩
            · exact .inr ⟨h.1, .inr h.2⟩
          · rintro (h | ⟨h1, h2 | h2⟩)
            · exact .inl (.inl h)
            · exact .inl (.inr ⟨h1, h2⟩)
            · exact .inr ⟨h1, h2⟩
        have hbk := hbb k hkn
        have hbm := hbb m hmn
        by_cases hlt : b m ≤ b k
        · have hP3 := (hP2.skip hlt).congr hQ
          (repeat' (first | exact trivial | exact fun h => h | refine And.intro ?_ ?_ | (intro hb; try simp at hb) | omega | exact rfl | exact Nat.le_refl _ | (show _ + 1 ≤ 4294967296; omega) | (dsimp only; omega) | (show (_ : Int) ≤ (_ : Int); omega) | (show _ < List.length _; simp only [List.length_set, List.length_append, List.length_take]; omega) | (show wantB _ _ = true; simp <;> omega) | (show (_ : Bool) = _; simp_all; done) | (exfalso; omega) | refine aRegion_auto (by decide +kernel) ?_ | fail))
          refine ⟨(p + 1, clk2, S2), ⟨by show p + 1 ≤ q; omega, hP3, hC2, hN2, by show S2.length ≤ 9 * k + (p + 1); omega⟩, by show q - (p + 1) < q - p; omega, Ent.sub rfl ?_⟩
          (repeat' (first | exact trivial | exact rfl | refine And.intro ?_ ?_))
        · have hlt : b k < b m := by omega
          have hks : ∀ e ∈ S2, (0 ≤ e.2.1.1 ∧ e.2.1.1 < 16384) ∧ (0 ≤ e.2.1.2 ∧ e.2.1.2 < 16384) := fun e he => by
            obtain ⟨_, ⟨⟨i, x, q1, q2, q3, _⟩, _⟩⟩ := hP2.low e he
            have hi : i < n ∧ x < n := by
              rcases q1 with ⟨q1, q4⟩ | ⟨q1, q4⟩
              · exact ⟨by omega, by have := ((arN_mem w h i).2 x).1 q4; omega⟩
              · exact ⟨by omega, by have := (hmem x).1 (List.mem_of_mem_take q4); omega⟩
            rw [← q2, ← q3]
            exact ⟨hbb i hi.1, hbb x hi.2⟩
          have hkk : ∀ y ∈ S2.map (fun e => (e.1, kv2 e.2.1.1 e.2.1.2)), ∃ l, keyOf Tryz.prog 122 y.2 = some l := fun y hy => by
            obtain ⟨e, he, rfl⟩ := List.mem_map.1 hy
            have := hks e he
            exact key2_ok (by omega) (by omega)
          (repeat' (first | exact trivial | exact fun h => h | refine And.intro ?_ ?_ | (intro hb; try simp at hb) | omega | exact rfl | exact Nat.le_refl _ | (show _ + 1 ≤ 4294967296; omega) | (dsimp only; omega) | (show (_ : Int) ≤ (_ : Int); omega) | (show _ < List.length _; simp only [List.length_set, List.length_append, List.length_take]; omega) | (show wantB _ _ = true; simp <;> omega) | (show (_ : Bool) = _; simp_all; done) | (exfalso; omega) | refine aRegion_auto (by decide +kernel) ?_ | fail))
          (apply exEff; focus (repeat' (first | exact ⟨rfl, rfl⟩ | exact trivial | refine And.intro ?_ ?_ | omega | exact Nat.le_refl _ | (show _ + 1 ≤ 4294967296; omega))))
          (repeat' (first | exact trivial | exact fun h => h | refine And.intro ?_ ?_ | (intro hb; try simp at hb) | omega | exact rfl | exact Nat.le_refl _ | (show _ + 1 ≤ 4294967296; omega) | (dsimp only; omega) | (show (_ : Int) ≤ (_ : Int); omega) | (show _ < List.length _; simp only [List.length_set, List.length_append, List.length_take]; omega) | (show wantB _ _ = true; simp <;> omega) | (show (_ : Bool) = _; simp_all; done) | (exfalso; omega) | refine aRegion_auto (by decide +kernel) ?_ | fail))
          (apply exEff; focus (repeat' (first | exact ⟨rfl, rfl⟩ | exact trivial | refine And.intro ?_ ?_ | omega | exact Nat.le_refl _ | (show _ + 1 ≤ 4294967296; omega))))
          (repeat' (first | exact trivial | exact fun h => h | refine And.intro ?_ ?_ | (intro hb; try simp at hb) | omega | exact rfl | exact Nat.le_refl _ | (show _ + 1 ≤ 4294967296; omega) | (dsimp only; omega) | (show (_ : Int) ≤ (_ : Int); omega) | (show _ < List.length _; simp only [List.length_set, List.length_append, List.length_take]; omega) | (show wantB _ _ = true; simp <;> omega) | (show (_ : Bool) = _; simp_all; done) | (exfalso; omega) | refine aRegion_auto (by decide +kernel) ?_ | fail))
          refine aact_lookup (tok := 1) (off := 0) (bm := bm) (clock := clk2) (ks := S2.map fun e => (e.1, kv2 e.2.1.1 e.2.1.2)) (vs := S2.map fun e => .fz int e.2.2) (kv := kv2 (b k) (b m)) ?_ ?_ Tryz.underlying120 keyed2 (fun c v h => ?_) (key2_ok (by omega) (by omega)) hkk zero_int (fun hno => ?_) (fun j y av hj hy hav => ?_)
          · rfl
          · rfl
          · have h := rel_kv2 c v h
            rw [g2, g3] at h
            exact h
          · have hno' : ∀ e ∈ S2, e.2.1 ≠ (b k, b m) := fun e he h => hno _ (List.mem_map.2 ⟨e, he, rfl⟩) (by rw [h])
            have hP3 := (hP2.new hlt hno' clk2).congr hQ
            (repeat' (first | exact trivial | exact fun h => h | refine And.intro ?_ ?_ | (intro hb; try simp at hb) | omega | exact rfl | exact Nat.le_refl _ | (show _ + 1 ≤ 4294967296; omega) | (dsimp only; omega) | (show (_ : Int) ≤ (_ : Int); omega) | (show _ < List.length _; simp only [List.length_set, List.length_append, List.length_take]; omega) | (show wantB _ _ = true; simp <;> omega) | (show (_ : Bool) = _; simp_all; done) | (exfalso; omega) | refine aRegion_auto (by decide +kernel) ?_ | fail))
            refine aact_store (tok := 1) (off := 0) (bm := bm) (clock := clk2) (ks := S2.map fun e => (e.1, kv2 e.2.1.1 e.2.1.2)) (vs := S2.map fun e => .fz int e.2.2) (kv := kv2 (b k) (b m)) ?_ ?_ Tryz.underlying120 keyed2 (fun c v h => ?_) (key2_ok (by omega) (by omega)) hkk (fun hno2 => ?_) (fun j2 y2 hj2 hy2 => ?_)
            · rfl
            · rfl
            · have h := rel_kv2 c v h
              rw [g2, g3] at h
              exact h
            · (repeat' (first | exact trivial | exact fun h => h | refine And.intro ?_ ?_ | (intro hb; try simp at hb) | omega | exact rfl | exact Nat.le_refl _ | (show _ + 1 ≤ 4294967296; omega) | (dsimp only; omega) | (show (_ : Int) ≤ (_ : Int); omega) | (show _ < List.length _; simp only [List.length_set, List.length_append, List.length_take]; omega) | (show wantB _ _ = true; simp <;> omega) | (show (_ : Bool) = _; simp_all; done) | (exfalso; omega) | refine aRegion_auto (by decide +kernel) ?_ | fail))
              refine ⟨(p + 1, clk2 + 1, S2 ++ [(clk2, (b k, b m), max (hts a k) (hts a m))]), ⟨by show p + 1 ≤ q; omega, hP3, fun e he => ?_, ?_, ?_⟩, by show q - (p + 1) < q - p; omega, Ent.ren [0, 1] rfl ?_ ?_⟩
              · rcases List.mem_append.1 he with h | h
                · have := hC2 e h; show e.1 < clk2 + 1; omega
                · simp at h; subst h; exact Nat.lt_succ_self _
              · show ((S2 ++ [(clk2, (b k, b m), max (hts a k) (hts a m))]).map (·.1)).Nodup
                rw [List.map_append, List.nodup_append]
                refine ⟨hN2, by simp, fun x hx y hy => ?_⟩
                obtain ⟨e, he, rfl⟩ := List.mem_map.1 hx
                have := hC2 e he
                simp at hy; omega
              · show (S2 ++ [(clk2, (b k, b m), max (hts a k) (hts a m))]).length ≤ 9 * k + (p + 1)
                simp; omega
              · (repeat' (first | exact trivial | exact rfl | refine And.intro ?_ ?_))
                · exact congrArg some (mp_new _ bm clk2 S2 (max_eq g4 g5))
                · exact okLB_fz ..
              · (repeat' (first | exact trivial | exact rfl | refine And.intro ?_ ?_))
            · exfalso
              exact hno _ (List.mem_of_getElem? hj2) hy2
          · obtain ⟨e, he, rfl⟩ : ∃ e, S2[j]? = some e ∧ (e.1, kv2 e.2.1.1 e.2.1.2) = y := by
              rw [List.getElem?_map] at hj
              cases hS : S2[j]? with
              | none => rw [hS] at hj; cases hj
              | some e => rw [hS] at hj; exact ⟨e, rfl, by simpa using hj⟩
            have hav : av = .fz int e.2.2 := by
              rw [List.getElem?_map, he] at hav
              simpa using hav.symm
            subst hav
            have hy : e.2.1 = (b k, b m) := Prod.ext (kv2_inj.1 hy).1 (kv2_inj.1 hy).2
            (repeat' (first | exact trivial | exact fun h => h | refine And.intro ?_ ?_ | (intro hb; try simp at hb) | omega | exact rfl | exact Nat.le_refl _ | (show _ + 1 ≤ 4294967296; omega) | (dsimp only; omega) | (show (_ : Int) ≤ (_ : Int); omega) | (show _ < List.length _; simp only [List.length_set, List.length_append, List.length_take]; omega) | (show wantB _ _ = true; simp <;> omega) | (show (_ : Bool) = _; simp_all; done) | (exfalso; omega) | refine aRegion_auto (by decide +kernel) ?_ | fail))
            · refine aact_store (tok := 1) (off := 0) (bm := bm) (clock := clk2) (ks := S2.map fun e => (e.1, kv2 e.2.1.1 e.2.1.2)) (vs := S2.map fun e => .fz int e.2.2) (kv := kv2 (b k) (b m)) ?_ ?_ Tryz.underlying120 keyed2 (fun c v h => ?_) (key2_ok (by omega) (by omega)) hkk (fun hno2 => ?_) (fun j2 y2 hj2 hy2 => ?_)
              · rfl
              · rfl
              · have h := rel_kv2 c v h
                rw [g2, g3] at h
                exact h
              · exfalso
                exact hno2 (e.1, kv2 e.2.1.1 e.2.1.2) (List.mem_map.2 ⟨e, List.mem_of_getElem? he, rfl⟩) (by rw [hy])
              · obtain ⟨e2, he2, rfl⟩ : ∃ e, S2[j2]? = some e ∧ (e.1, kv2 e.2.1.1 e.2.1.2) = y2 := by
                  rw [List.getElem?_map] at hj2
                  cases hS : S2[j2]? with
                  | none => rw [hS] at hj2; cases hj2
                  | some e => rw [hS] at hj2; exact ⟨e, rfl, by simpa using hj2⟩
                have hy2 : e2.2.1 = (b k, b m) := Prod.ext (kv2_inj.1 hy2).1 (kv2_inj.1 hy2).2
                have hee : e2 = e := key_inj hP2.nd (List.mem_of_getElem? he2) (List.mem_of_getElem? he) (hy2.trans hy.symm)
                have hvl : max (hts a k) (hts a m) < e2.2.2 := by
                  rw [hee]; rw [← g4, ← g5]; simpa using hb
                have hP3 := (hP2.lower he2 hy2 hvl).congr hQ
                (repeat' (first | exact trivial | exact fun h => h | refine And.intro ?_ ?_ | (intro hb; try simp at hb) | omega | exact rfl | exact Nat.le_refl _ | (show _ + 1 ≤ 4294967296; omega) | (dsimp only; omega) | (show (_ : Int) ≤ (_ : Int); omega) | (show _ < List.length _; simp only [List.length_set, List.length_append, List.length_take]; omega) | (show wantB _ _ = true; simp <;> omega) | (show (_ : Bool) = _; simp_all; done) | (exfalso; omega) | refine aRegion_auto (by decide +kernel) ?_ | fail))
                refine ⟨(p + 1, clk2, S2.set j2 (e2.1, e2.2.1, max (hts a k) (hts a m))), ⟨by show p + 1 ≤ q; omega, hP3, fun e he => ?_, ?_, ?_⟩, by show q - (p + 1) < q - p; omega, Ent.ren [0, 1] rfl ?_ ?_⟩
                · rcases List.mem_or_eq_of_mem_set he with h | h
                  · exact hC2 e h
                  · rw [h]; exact hC2 e2 (List.mem_of_getElem? he2)
                · show ((S2.set j2 (e2.1, e2.2.1, max (hts a k) (hts a m))).map (·.1)).Nodup
                  rw [set_born he2]; exact hN2
                · show (S2.set j2 (e2.1, e2.2.1, max (hts a k) (hts a m))).length ≤ 9 * k + (p + 1)
                  rw [List.length_set]; omega
                · (repeat' (first | exact trivial | exact rfl | refine And.intro ?_ ?_))
                  · exact congrArg some (mp_set _ bm clk2 S2 he2 (max_eq g4 g5))
                  · exact okLB_fz ..
                · (repeat' (first | exact trivial | exact rfl | refine And.intro ?_ ?_))
            · have hvl : e.2.2 ≤ max (hts a k) (hts a m) := by
                rw [← g4, ← g5]; simpa using hb
              have hP3 := (hP2.keep (List.mem_of_getElem? he) hy hvl).congr hQ
              (repeat' (first | exact trivial | exact fun h => h | refine And.intro ?_ ?_ | (intro hb; try simp at hb) | omega | exact rfl | exact Nat.le_refl _ | (show _ + 1 ≤ 4294967296; omega) | (dsimp only; omega) | (show (_ : Int) ≤ (_ : Int); omega) | (show _ < List.length _; simp only [List.length_set, List.length_append, List.length_take]; omega) | (show wantB _ _ = true; simp <;> omega) | (show (_ : Bool) = _; simp_all; done) | (exfalso; omega) | refine aRegion_auto (by decide +kernel) ?_ | fail))
              refine ⟨(p + 1, clk2, S2), ⟨by show p + 1 ≤ q; omega, hP3, hC2, hN2, by show S2.length ≤ 9 * k + (p + 1); omega⟩, by show q - (p + 1) < q - p; omega, Ent.ren [0, 1] rfl ?_ ?_⟩
              · (repeat' (first | exact trivial | exact rfl | refine And.intro ?_ ?_))
                · exact congrArg some (mp_same _ bm clk2 S2).symm
                · exact okLB_fz ..
              · (repeat' (first | exact trivial | exact rfl | refine And.intro ?_ ?_))
      · obtain rfl : p = q := by omega
        have hP3 : PM b (hts a) (fun i m => i < k + 1 ∧ m ∈ arN w h i) S2 := hP2.congr fun i x => by
          rw [List.take_of_length_le (by omega)]
          constructor
          · rintro (h | ⟨h1, h2⟩)
            · exact ⟨by omega, h.2⟩
            · subst h1; exact ⟨by omega, by rw [hl0]; exact h2⟩
          · rintro ⟨h1, h2⟩
            by_cases hik : i = k
            · subst hik; exact .inr ⟨rfl, by rw [← hl0]; exact h2⟩
            · exact .inl ⟨by omega, h2⟩
        (repeat' (first | exact trivial | exact fun h => h | refine And.intro ?_ ?_ | (intro hb; try simp at hb) | omega | exact rfl | exact Nat.le_refl _ | (show _ + 1 ≤ 4294967296; omega) | (dsimp only; omega) | (show (_ : Int) ≤ (_ : Int); omega) | (show _ < List.length _; simp only [List.length_set, List.length_append, List.length_take]; omega) | (show wantB _ _ = true; simp <;> omega) | (show (_ : Bool) = _; simp_all; done) | (exfalso; omega) | refine aRegion_auto (by decide +kernel) ?_ | fail))
        refine ⟨(k + 1, clk2, S2), ⟨by show k + 1 ≤ n; omega, hP3, hC2, hN2, by show S2.length ≤ 9 * (k + 1); omega⟩, by show n - (k + 1) < n - k; omega, Ent.sub rfl ?_⟩
        (repeat' (first | exact trivial | exact rfl | refine And.intro ?_ ?_))
    · (repeat' (first | exact trivial | exact rfl | refine And.intro ?_ ?_))
  · obtain rfl : k = n := by omega
    (repeat' (first | exact trivial | exact fun h => h | refine And.intro ?_ ?_ | (intro hb; try simp at hb) | omega | exact rfl | exact Nat.le_refl _ | (show _ + 1 ≤ 4294967296; omega) | (dsimp only; omega) | (show (_ : Int) ≤ (_ : Int); omega) | (show _ < List.length _; simp only [List.length_set, List.length_append, List.length_take]; omega) | (show wantB _ _ = true; simp <;> omega) | (show (_ : Bool) = _; simp_all; done) | (exfalso; omega) | refine aRegion_auto (by decide +kernel) ?_ | fail))
    refine aact_range (tok := 1) (off := 0) (bm := bm) (clock := clk) (ks := S.map fun e => (e.1, kv2 e.2.1.1 e.2.1.2)) (vs := S.map fun e => .fz int e.2.2) ?_ ?_ Tryz.underlying120 ?_
    · rfl
    · rfl
    (repeat' (first | exact trivial | exact fun h => h | refine And.intro ?_ ?_ | (intro hb; try simp at hb) | omega | exact rfl | exact Nat.le_refl _ | (show _ + 1 ≤ 4294967296; omega) | (dsimp only; omega) | (show (_ : Int) ≤ (_ : Int); omega) | (show _ < List.length _; simp only [List.length_set, List.length_append, List.length_take]; omega) | (show wantB _ _ = true; simp <;> omega) | (show (_ : Bool) = _; simp_all; done) | (exfalso; omega) | refine aRegion_auto (by decide +kernel) ?_ | fail))
    refine ⟨List En × List Nat × List Pa, fun x => ⟨[(6, .ptr 1 0), (14, .ref 3 0 x.2.2.length), (87, .ptr 2 0)], [bA, mpO bm clk S, .mapo (.iter bm clk x.2.1 clk) [], .row PaT x.2.2]⟩, fun x => RG S x.1 x.2.1 x.2.2, fun x => S.length - x.2.2.length, ([], [], []), RG.start S, (Ent.nil 14 PaT rfl).trans (Ent.sub ?_ ?_), ?_⟩
    · (repeat' (first | exact rfl | refine cons_eq ?_ ?_))
    · (repeat' (first | exact trivial | exact rfl | refine And.intro ?_ ?_))
    rintro ⟨es, seen, out⟩ hR
    have hR : RG S es seen out := hR
    show awp _ _ _ ⟨[(6, .ptr 1 0), (14, .ref 3 0 out.length), (87, .ptr 2 0)], [bA, mpO bm clk S, .mapo (.iter bm clk seen clk) [], .row PaT out]⟩
    have hle := hR.le
    have hlen := hR.len
    refine aact_next (tok := 2) (m := 1) (off := 0) (bm := bm) (since := clk) (clock := clk) (last := clk) (seen := seen) (ks := S.map fun e => (e.1, kv2 e.2.1.1 e.2.1.2)) (vs := S.map fun e => .fz int e.2.2) (us := []) ?_ ?_ ?_ (fun y hy => ?_) (Nat.le_refl _) (fun hall => ?_) (fun y hy hn2 => ?_)
    · rfl
    · rfl
    · rfl
    · obtain ⟨e, he, rfl⟩ := List.mem_map.1 hy
      exact hC e he
    · have hperm := hR.done hN (fun e he => hall (e.1, kv2 e.2.1.1 e.2.1.2) (List.mem_map.2 ⟨e, he, rfl⟩))
      (repeat' (first | exact trivial | exact fun h => h | refine And.intro ?_ ?_ | (intro hb; try simp at hb) | omega | exact rfl | exact Nat.le_refl _ | (show _ + 1 ≤ 4294967296; omega) | (dsimp only; omega) | (show (_ : Int) ≤ (_ : Int); omega) | (show _ < List.length _; simp only [List.length_set, List.length_append, List.length_take]; omega) | (show wantB _ _ = true; simp <;> omega) | (show (_ : Bool) = _; simp_all; done) | (exfalso; omega) | refine aRegion_auto (by decide +kernel) ?_ | fail))
      refine acall_frame [3] [.row PaT out] [.ref 0 0 out.length, .fn 60 []] rfl (by repeat' (first | exact rfl | exact trivial | refine And.intro ?_ ?_)) ⟨rfl, rfl⟩ rfl (sortPass_any _ out out.length rfl (by omega) _ fun ys y1 y2 => ?_)
      have hPL := hP.list (y1.trans hperm) y2
      have hyl := y1.length_eq
      have hK' := hK ys (by omega) hPL
      refine ⟨_, _, (REnt.conv [.dat (.list PaT), .keep] _ rfl ?_).trans (REnt.drop ⟨rfl, rfl⟩), ?_⟩
      · (repeat' (first | exact trivial | refine And.intro ?_ ?_ | (show _ ≤ _; omega) | (show _ ≤ _; simp; done)))
      · refine (congrArg (fun z => K (.tup [.fz (.list PaT) z, .fz .raw .nilIface]) []) (?_ : List.take out.length ys = ys)).mpr hK'
        exact List.take_of_length_le (by omega)
    · obtain ⟨e, he, rfl⟩ := List.mem_map.1 hy
      have hR2 := hR.next he hn2
      (repeat' (first | exact trivial | exact fun h => h | refine And.intro ?_ ?_ | (intro hb; try simp at hb) | omega | exact rfl | exact Nat.le_refl _ | (show _ + 1 ≤ 4294967296; omega) | (dsimp only; omega) | (show (_ : Int) ≤ (_ : Int); omega) | (show _ < List.length _; simp only [List.length_set, List.length_append, List.length_take]; omega) | (show wantB _ _ = true; simp <;> omega) | (show (_ : Bool) = _; simp_all; done) | (exfalso; omega) | refine aRegion_auto (by decide +kernel) ?_ | fail))
      refine aact_entry (tok := 2) (m := 1) (off := 0) (bm := bm) (since := clk) (clock := clk) (b0 := e.1) (s := seen) (ks := S.map fun e => (e.1, kv2 e.2.1.1 e.2.1.2)) (vs := S.map fun e => .fz int e.2.2) (us := []) (kf := fun v => match v with | .agg xs => .agg (xs.toList.map fun x => match x with | .int _ z => .fz int z | _ => .unk) | _ => .unk) ?_ ?_ ?_ ⟨_, List.mem_map.2 ⟨e, he, rfl⟩, rfl⟩ (fun y hy c => ?_) (fun j y av hj hy hav => ?_)
      · rfl
      · rfl
      · rfl
      · obtain ⟨e', _, rfl⟩ := List.mem_map.1 hy
        show Rel c (.agg [.fz int e'.2.1.1, .fz int e'.2.1.2]) (.agg #[.int .i64 e'.2.1.1, .int .i64 e'.2.1.2])
        unfold Rel
        refine ⟨[.int .i64 e'.2.1.1, .int .i64 e'.2.1.2], rfl, ?_⟩
        unfold RelL
        refine ⟨_, _, rfl, rel_int.2 rfl, ?_⟩
        unfold RelL
        refine ⟨_, _, rfl, rel_int.2 rfl, ?_⟩
        unfold RelL; rfl
      · obtain ⟨e', he', rfl⟩ : ∃ e, S[j]? = some e ∧ (e.1, kv2 e.2.1.1 e.2.1.2) = y := by
          rw [List.getElem?_map] at hj
          cases hS : S[j]? with
          | none => rw [hS] at hj; cases hj
          | some e => rw [hS] at hj; exact ⟨e, rfl, by simpa using hj⟩
        have hee : e' = e := Ps.born_inj hN (List.mem_of_getElem? he') he hy
        subst hee
        have hav : av = .fz int e'.2.2 := by
          rw [List.getElem?_map, he'] at hav
          simpa using hav.symm
        subst hav
        (repeat' (first | exact trivial | exact fun h => h | refine And.intro ?_ ?_ | (intro hb; try simp at hb) | omega | exact rfl | exact Nat.le_refl _ | (show _ + 1 ≤ 4294967296; omega) | (dsimp only; omega) | (show (_ : Int) ≤ (_ : Int); omega) | (show _ < List.length _; simp only [List.length_set, List.length_append, List.length_take]; omega) | (show wantB _ _ = true; simp <;> omega) | (show (_ : Bool) = _; simp_all; done) | (exfalso; omega) | refine aRegion_auto (by decide +kernel) ?_ | fail))
        have hle2 := hR2.le
        rw [List.length_append, List.length_singleton] at hle2
        refine ⟨(es ++ [e'], seen ++ [e'.1], out ++ [pass e']), hR2, ?_, Ent.ren [0, 1, 2, 6] rfl ?_ ?_⟩
        · show S.length - (out ++ [pass e']).length < S.length - out.length
          rw [List.length_append, List.length_singleton]; omega
        · (repeat' (first | exact trivial | exact rfl | refine And.intro ?_ ?_))
          · exact congrArg some (mp_same _ bm clk S).symm
          · exact okLB_fz ..
          · refine congrArg (fun l => some (AO.row PaT l)) (?_ : List.take out.length out ++ [pass e'] = out ++ [pass e'])
            rw [List.take_of_length_le (Nat.le_refl _)]
        · (repeat' (first | exact trivial | exact rfl | refine And.intro ?_ ?_))
          refine congrArg (AV.ref 6 0) (?_ : out.length + 1 = (out ++ [pass e']).length)
          rw [List.length_append, List.length_singleton]
end Go.Proofs.YtgjjooophigkoaaGreatDoor
/-
  What belongs together: roots, plainly.
-/
namespace Go.Proofs.YtgjjooophigkoaaGreatDoor
namespace Uf
def rt (f : Nat → Nat) : Nat → Nat → Nat
  | 0, x => x
  | m + 1, x => if f x = x then x else rt f m (f x)
/-- the root of a number -/
def R (f : Nat → Nat) (x : Nat) : Nat := rt f x x
theorem rt_fuel {f : Nat → Nat} (hf : ∀ x, f x ≤ x) : ∀ (m y : Nat), y ≤ m → rt f m y = rt f y y := by
  intro m
  induction m using Nat.strongRecOn with
  | _ m ih =>
    intro y hy
    cases m with
    | zero => obtain rfl : y = 0 := by omega
              rfl
    | succ m =>
      by_cases h : f y = y
      · have h1 : rt f (m + 1) y = y := by unfold rt; rw [if_pos h]
        rw [h1]
        cases y with
        | zero => rfl
        | succ y => unfold rt; rw [if_pos h]
      · have hl : f y < y := by have := hf y; omega
        have h1 : rt f (m + 1) y = rt f m (f y) := by rw [rt, if_neg h]
        rw [h1, ih m (by omega) (f y) (by omega)]
        obtain ⟨z, rfl⟩ : ∃ z, y = z + 1 := ⟨y - 1, by omega⟩
        have h2 : rt f (z + 1) (z + 1) = rt f z (f (z + 1)) := by rw [rt, if_neg h]
        rw [h2, ih z (by omega) (f (z + 1)) (by omega)]
theorem R_root {f : Nat → Nat} {x : Nat} (h : f x = x) : R f x = x := by
  unfold R
  cases x with
  | zero => rfl
  | succ y => rw [rt, if_pos h]
theorem R_step {f : Nat → Nat} (hf : ∀ x, f x ≤ x) (x : Nat) : R f (f x) = R f x := by
  by_cases h : f x = x
  · rw [h]
  · have hl : f x < x := by have := hf x; omega
    unfold R
    obtain ⟨z, rfl⟩ : ∃ z, x = z + 1 := ⟨x - 1, by omega⟩
    have h2 : rt f (z + 1) (z + 1) = rt f z (f (z + 1)) := by rw [rt, if_neg h]
    rw [h2, rt_fuel hf z (f (z + 1)) (by omega)]
theorem R_le {f : Nat → Nat} (hf : ∀ x, f x ≤ x) : ∀ x, R f x ≤ x := by
  intro x
  induction x using Nat.strongRecOn with
  | _ x ih =>
    by_cases h : f x = x
    · rw [R_root h]; exact Nat.le_refl _
    · have hl : f x < x := by have := hf x; omega
      rw [← R_step hf x]
      have := ih (f x) hl
      omega
theorem R_fix {f : Nat → Nat} (hf : ∀ x, f x ≤ x) : ∀ x, f (R f x) = R f x := by
  intro x
  induction x using Nat.strongRecOn with
  | _ x ih =>
    by_cases h : f x = x
    · rw [R_root h]; exact h
    · have hl : f x < x := by have := hf x; omega
      rw [← R_step hf x]
      exact ih (f x) hl
theorem R_keys {f : Nat → Nat} {I : Nat → Prop} (hI : ∀ x, I x → I (f x)) (hf : ∀ x, f x ≤ x) : ∀ x, I x → I (R f x) := by
  intro x
  induction x using Nat.strongRecOn with
  | _ x ih =>
    intro hx
    by_cases h : f x = x
    · rw [R_root h]; exact hx
    · have hl : f x < x := by have := hf x; omega
      rw [← R_step hf x]
      exact ih (f x) hl (hI x hx)
/-- y lies on the way from x to its root -/
inductive Pth (f : Nat → Nat) : Nat → Nat → Prop
  | refl (x : Nat) : Pth f x x
  | step {x y : Nat} : Pth f (f x) y → Pth f x y
theorem Pth.root {f : Nat → Nat} (hf : ∀ x, f x ≤ x) {x y : Nat} (h : Pth f x y) : R f y = R f x := by
  induction h with
  | refl => rfl
  | step _ ih => rw [ih, R_step hf]
open Classical in
/-- the way from x made short -/
noncomputable def cp (f : Nat → Nat) (x : Nat) : Nat → Nat := fun y => if Pth f x y then R f y else f y
theorem cp_le {f : Nat → Nat} (hf : ∀ x, f x ≤ x) (x y : Nat) : cp f x y ≤ y := by
  unfold cp; split
  · exact R_le hf y
  · exact hf y
theorem cp_R {f : Nat → Nat} (hf : ∀ x, f x ≤ x) (x : Nat) : ∀ y, R (cp f x) y = R f y := by
  intro y
  induction y using Nat.strongRecOn with
  | _ y ih =>
    have hc := cp_le hf x
    by_cases h : f y = y
    · have : cp f x y = y := by unfold cp; split; exact R_root h; exact h
      rw [R_root this, R_root h]
    · have hl : f y < y := by have := hf y; omega
      rw [← R_step hc y, ← R_step hf y]
      by_cases hp : Pth f x y
      · have e : cp f x y = R f y := by unfold cp; rw [if_pos hp]
        rw [e]
        have hr := R_fix hf y
        have : cp f x (R f y) = R f y := by unfold cp; split; exact R_root hr; exact hr
        rw [R_root this, R_step hf]
      · have e : cp f x y = f y := by unfold cp; rw [if_neg hp]
        rw [e]
        exact ih (f y) hl
theorem pth_iff {f : Nat → Nat} {x y : Nat} : Pth f x y ↔ y = x ∨ Pth f (f x) y := by
  constructor
  · intro h
    cases h with
    | refl => exact .inl rfl
    | step h => exact .inr h
  · rintro (rfl | h)
    · exact .refl _
    · exact .step h
theorem pth_root {f : Nat → Nat} {x y : Nat} (h : f x = x) (hp : Pth f x y) : y = x := by
  induction hp with
  | refl => rfl
  | step _ ih => rw [h] at ih; exact ih h
theorem cp_root {f : Nat → Nat} {x : Nat} (h : f x = x) : cp f x = f := by
  funext y
  unfold cp
  split
  · rename_i hp
    rw [pth_root h hp, R_root h, h]
  · rfl
/-- the way from the next one made short, and then this one -/
theorem cp_step {f : Nat → Nat} (x : Nat) : (fun y => if y = x then R f x else cp f (f x) y) = cp f x := by
  funext y
  by_cases hy : y = x
  · rw [if_pos hy, hy]
    unfold cp
    rw [if_pos (Pth.refl _)]
  · rw [if_neg hy]
    unfold cp
    by_cases hp : Pth f (f x) y
    · rw [if_pos hp, if_pos (Pth.step hp)]
    · rw [if_neg hp, if_neg (fun h => by rcases pth_iff.1 h with h | h; exact hy h; exact hp h)]
/-- once made short, it is short -/
theorem cp_self {f : Nat → Nat} (x : Nat) : cp f x x = R f x := by
  unfold cp; rw [if_pos (Pth.refl _)]
theorem pth_cp {f : Nat → Nat} (hf : ∀ x, f x ≤ x) (x : Nat) {z y : Nat} (h : Pth (cp f x) z y) : Pth f z y ∨ y = R f z := by
  induction h with
  | refl => exact .inl (.refl _)
  | @step z y _ ih =>
    by_cases hp : Pth f x z
    · have e : cp f x z = R f z := by unfold cp; rw [if_pos hp]
      rw [e] at ih
      rcases ih with ih | ih
      · exact .inr (pth_root (R_fix hf z) ih)
      · rw [ih, R_root (R_fix hf z)]; exact .inr rfl
    · have e : cp f x z = f z := by unfold cp; rw [if_neg hp]
      rw [e] at ih
      rcases ih with ih | ih
      · exact .inl (.step ih)
      · rw [ih, R_step hf]; exact .inr rfl
open Classical in
theorem cp_cp {f : Nat → Nat} (hf : ∀ x, f x ≤ x) (x z y : Nat) : cp (cp f x) z y = if Pth f x y ∨ Pth f z y then R f y else f y := by
  have hc := cp_le hf x
  have root : ∀ y, R f y = y → f y = y := fun y h => by rw [← h]; exact R_fix hf y
  by_cases hx : Pth f x y
  · rw [if_pos (.inl hx)]
    unfold cp
    split
    · exact cp_R hf x y
    · first | rfl | rw [if_pos hx]
  · by_cases hz : Pth f z y
    · rw [if_pos (.inr hz)]
      -- on the way from z, never on that from x: still on the way from z
      have key : ∀ {a : Nat}, Pth f a y → Pth (cp f x) a y := by
        intro a ha
        induction ha with
        | refl => exact .refl _
        | @step a y h ih =>
          have hn : ¬ Pth f x a := fun h' => hx (by
            clear ih
            have tr : ∀ {u v w : Nat}, Pth f u v → Pth f v w → Pth f u w := by
              intro u v w h1
              induction h1 with
              | refl => exact id
              | step _ ih => exact fun h2 => .step (ih h2)
            exact tr h' (.step h))
          have e : cp f x a = f a := by unfold cp; rw [if_neg hn]
          exact .step (by rw [e]; exact ih hx hz)
      unfold cp
      rw [if_pos (by have := key hz; exact this)]
      exact cp_R hf x y
    · rw [if_neg (fun h => by rcases h with h | h; exact hx h; exact hz h)]
      have e : cp f x y = f y := by unfold cp; rw [if_neg hx]
      show (if Pth (cp f x) z y then R (cp f x) y else cp f x y) = f y
      split
      · rename_i hp
        rcases pth_cp hf x hp with h | h
        · exact absurd h hz
        · have hr : f y = y := by rw [h]; exact R_fix hf z
          rw [cp_R hf x y, R_root hr, hr]
      · exact e
theorem cp_comm {f : Nat → Nat} (hf : ∀ x, f x ≤ x) (x z : Nat) : cp (cp f x) z = cp (cp f z) x := by
  funext y
  rw [cp_cp hf, cp_cp hf]
  by_cases h1 : Pth f x y <;> by_cases h2 : Pth f z y <;> simp [h1, h2]
/-- two are put together: the greater root leads to the lesser -/
def un (f : Nat → Nat) (x y : Nat) : Nat → Nat := fun k => if k = max x y then min x y else f k
theorem un_le {f : Nat → Nat} (hf : ∀ x, f x ≤ x) (x y k : Nat) : un f x y k ≤ k := by
  unfold un; split
  · omega
  · exact hf k
theorem un_R {f : Nat → Nat} (hf : ∀ x, f x ≤ x) {x y : Nat} (hx : f x = x) (hy : f y = y) : ∀ k, R (un f x y) k = if R f k = x ∨ R f k = y then min x y else R f k := by
  intro k
  have hg := un_le hf x y
  have hmin : un f x y (min x y) = min x y := by
    unfold un; split
    · rfl
    · rcases Nat.le_total x y with h | h
      · rw [Nat.min_eq_left h]; exact hx
      · rw [Nat.min_eq_right h]; exact hy
  induction k using Nat.strongRecOn with
  | _ k ih =>
    by_cases hk : k = max x y
    · have e : un f x y k = min x y := by unfold un; rw [if_pos hk]
      have hr : f k = k := by
        rcases Nat.le_total x y with h | h
        · rw [hk, Nat.max_eq_right h]; exact hy
        · rw [hk, Nat.max_eq_left h]; exact hx
      rw [← R_step hg k, e, R_root hmin, R_root hr, if_pos (by omega)]
    · have e : un f x y k = f k := by unfold un; rw [if_neg hk]
      by_cases h : f k = k
      · rw [R_root (e.trans h), R_root h]
        split
        · omega
        · rfl
      · have hl : f k < k := by have := hf k; omega
        rw [← R_step hg k, e, ih (f k) hl, R_step hf]
end Uf
end Go.Proofs.YtgjjooophigkoaaGreatDoor
