/-
  Spans: what two give, walked.
-/
import Derived.Test.YtlmmhmoihmlljaaM5
import Derived.Test.YtlmmhmoihmlljaaChecked
import Derived.WalkKit
import Derived.ProofKit
import Derived.OpenShut
import Derived.Carry
import Derived.Test.YtlmmhmoihmlljaaRows
namespace Go.Proofs.Ytlmmhmoihmlljaa
open Go Go.Ab Go.RowKit
set_option maxRecDepth 100000
theorem some_iff {o : Option Nat} {v : Nat} (h : o = some v) : o.isSome = true := by rw [h]; rfl
theorem ord_some {x y : Nat} (hx : nb x) (hy : nb y) : (FloatKind.f64.format.order x y).isSome = true := by
  rw [show FloatKind.f64.format.order x y = some (compare (Fp.key x) (Fp.key y)) from Fp.order_key hx.2 hy.2]; rfl
theorem mulA (G : List (Nat × Value)) (x y : Nat) (h : FloatKind.f64.format.mul x y = some (fmul x y)) (K : AV → List AO → Prop) (hK : K (.fz F64 (fmul x y)) []) : ACall Try.prog G 45 [.fz F64 x, .fz F64 y] [] K := by
  have hs := some_iff h
  refine acall_mk (E := envAt G 8 0) (envOk _ _ _) Try.func45 rfl rfl rfl rfl rfl ?_
  (repeat' (first | exact trivial | exact fun h => h | refine And.intro ?_ ?_ | (intro hb; first | (simp at hb; done) | (simp at hb) | skip) | omega | exact rfl | exact Nat.le_refl _ | (show _ + 1 ≤ 4294967296; omega) | (dsimp only; omega) | (show (_ : Int) ≤ (_ : Int); omega) | (show _ < List.length _; simp only [List.length_set, List.length_append, List.length_take]; omega) | (show wantB _ _ = true; simp; done) | (show wantB _ _ = true; simp; omega) | (show (_ : Bool) = _; simp_all; done) | (exfalso; omega) | refine aRegion_auto (by decide +kernel) ?_ | refine ⟨_, _, REnt.drop ⟨rfl, rfl⟩, ?_⟩ | fail))
  all_goals first | exact hs | exact hK
theorem divA (G : List (Nat × Value)) (x y : Nat) (h : FloatKind.f64.format.div x y = some (fdiv x y)) (K : AV → List AO → Prop) (hK : K (.fz F64 (fdiv x y)) []) : ACall Try.prog G 46 [.fz F64 x, .fz F64 y] [] K := by
  have hs := some_iff h
  refine acall_mk (E := envAt G 8 0) (envOk _ _ _) Try.func46 rfl rfl rfl rfl rfl ?_
  (repeat' (first | exact trivial | exact fun h => h | refine And.intro ?_ ?_ | (intro hb; first | (simp at hb; done) | (simp at hb) | skip) | omega | exact rfl | exact Nat.le_refl _ | (show _ + 1 ≤ 4294967296; omega) | (dsimp only; omega) | (show (_ : Int) ≤ (_ : Int); omega) | (show _ < List.length _; simp only [List.length_set, List.length_append, List.length_take]; omega) | (show wantB _ _ = true; simp; done) | (show wantB _ _ = true; simp; omega) | (show (_ : Bool) = _; simp_all; done) | (exfalso; omega) | refine aRegion_auto (by decide +kernel) ?_ | refine ⟨_, _, REnt.drop ⟨rfl, rfl⟩, ?_⟩ | fail))
  all_goals first | exact hs | exact hK
theorem mm_nb {l : List Nat} (mx : Bool) (hl : ∀ i, i < l.length → nb (l.getD i 0)) : ∀ k, k < l.length → nb (mmV mx l k)
  | 0, h => hl 0 h
  | k + 1, h => (fMM_key mx (mm_nb mx hl k (by omega)) (hl (k + 1) h)).1
theorem minA (G : List (Nat × Value)) (l : List Nat) (n : Nat) (hn : l.length = n + 1) (hs : n ≤ 1000) (hl : ∀ i, i < l.length → nb (l.getD i 0)) (K : AV → List AO → Prop) (hK : K (.fz F64 (mmV false l n)) [.row F64 l]) :
    ACall Try.prog G 47 [.ref 0 0 (n + 1)] [.row F64 l] K := by
  refine acall_mk (E := envAt G 25 1) (envOk _ _ _) Try.func47 rfl rfl rfl rfl rfl ?_
  (repeat' (first | exact trivial | exact fun h => h | refine And.intro ?_ ?_ | (intro hb; first | (simp at hb; done) | (simp at hb) | skip) | omega | exact rfl | exact Nat.le_refl _ | (show _ + 1 ≤ 4294967296; omega) | (dsimp only; omega) | (show (_ : Int) ≤ (_ : Int); omega) | (show _ < List.length _; simp only [List.length_set, List.length_append, List.length_take]; omega) | (show wantB _ _ = true; simp; done) | (show wantB _ _ = true; simp; omega) | (show (_ : Bool) = _; simp_all; done) | (exfalso; omega) | refine aRegion_auto (by decide +kernel) ?_ | fail))
  refine ⟨Nat, fun k => ⟨[(0, .ref 0 0 (n + 1)), (3, .fz F64 (mmV false l k)), (4, .fz int ((k : Int) + 1))], [.row F64 l]⟩, fun k => k ≤ n, fun k => n - k, 0, Nat.zero_le _, Ent.sub rfl ?_, ?_⟩
  · (repeat' (first | exact trivial | exact rfl | refine And.intro ?_ ?_))
  intro k hk
  have hk : k ≤ n := hk
  show awp _ _ _ ⟨[(0, .ref 0 0 (n + 1)), (3, .fz F64 (mmV false l k)), (4, .fz int ((k : Int) + 1))], [.row F64 l]⟩
  by_cases hk2 : k < n
  · have o := ord_some (mm_nb false hl k (by omega)) (hl (k + 1) (by omega))
    have g : List.getD l (0 + Int.toNat ((k : Int) + 1)) (F64 : Ty).dft = l.getD (k + 1) 0 := by
      rw [Nat.zero_add, show Int.toNat ((k : Int) + 1) = k + 1 by omega]; rfl
    (repeat' (first | exact trivial | exact fun h => h | refine And.intro ?_ ?_ | (intro hb; first | (simp at hb; done) | (simp at hb) | skip) | omega | exact rfl | exact Nat.le_refl _ | (show _ + 1 ≤ 4294967296; omega) | (dsimp only; omega) | (show (_ : Int) ≤ (_ : Int); omega) | (show _ < List.length _; simp only [List.length_set, List.length_append, List.length_take]; omega) | (show wantB _ _ = true; simp; done) | (show wantB _ _ = true; simp; omega) | (show (_ : Bool) = _; simp_all; done) | (exfalso; omega) | refine aRegion_auto (by decide +kernel) ?_ | fail))
    refine ⟨k + 1, by show k + 1 ≤ n; omega, by show n - (k + 1) < n - k; omega, Ent.sub rfl ?_⟩
    (repeat' (first | exact trivial | exact rfl | refine And.intro ?_ ?_))
    · exact congrArg (AV.fz F64) (show fMM false .f64 (mmV false l k) (List.getD l (0 + Int.toNat ((k : Int) + 1)) (F64 : Ty).dft) = mmV false l (k + 1) by rw [g]; rfl)
  · have hk3 : k = n := by omega
    subst hk3
    (repeat' (first | exact trivial | exact fun h => h | refine And.intro ?_ ?_ | (intro hb; first | (simp at hb; done) | (simp at hb) | skip) | omega | exact rfl | exact Nat.le_refl _ | (show _ + 1 ≤ 4294967296; omega) | (dsimp only; omega) | (show (_ : Int) ≤ (_ : Int); omega) | (show _ < List.length _; simp only [List.length_set, List.length_append, List.length_take]; omega) | (show wantB _ _ = true; simp; done) | (show wantB _ _ = true; simp; omega) | (show (_ : Bool) = _; simp_all; done) | (exfalso; omega) | refine aRegion_auto (by decide +kernel) ?_ | fail))
    refine ⟨_, _, REnt.refl _ _ _, hK⟩
theorem maxA (G : List (Nat × Value)) (l : List Nat) (n : Nat) (hn : l.length = n + 1) (hs : n ≤ 1000) (hl : ∀ i, i < l.length → nb (l.getD i 0)) (K : AV → List AO → Prop) (hK : K (.fz F64 (mmV true l n)) [.row F64 l]) :
    ACall Try.prog G 48 [.ref 0 0 (n + 1)] [.row F64 l] K := by
  refine acall_mk (E := envAt G 25 1) (envOk _ _ _) Try.func48 rfl rfl rfl rfl rfl ?_
  (repeat' (first | exact trivial | exact fun h => h | refine And.intro ?_ ?_ | (intro hb; first | (simp at hb; done) | (simp at hb) | skip) | omega | exact rfl | exact Nat.le_refl _ | (show _ + 1 ≤ 4294967296; omega) | (dsimp only; omega) | (show (_ : Int) ≤ (_ : Int); omega) | (show _ < List.length _; simp only [List.length_set, List.length_append, List.length_take]; omega) | (show wantB _ _ = true; simp; done) | (show wantB _ _ = true; simp; omega) | (show (_ : Bool) = _; simp_all; done) | (exfalso; omega) | refine aRegion_auto (by decide +kernel) ?_ | fail))
  refine ⟨Nat, fun k => ⟨[(0, .ref 0 0 (n + 1)), (3, .fz F64 (mmV true l k)), (4, .fz int ((k : Int) + 1))], [.row F64 l]⟩, fun k => k ≤ n, fun k => n - k, 0, Nat.zero_le _, Ent.sub rfl ?_, ?_⟩
  · (repeat' (first | exact trivial | exact rfl | refine And.intro ?_ ?_))
  intro k hk
  have hk : k ≤ n := hk
  show awp _ _ _ ⟨[(0, .ref 0 0 (n + 1)), (3, .fz F64 (mmV true l k)), (4, .fz int ((k : Int) + 1))], [.row F64 l]⟩
  by_cases hk2 : k < n
  · have o := ord_some (mm_nb true hl k (by omega)) (hl (k + 1) (by omega))
    have g : List.getD l (0 + Int.toNat ((k : Int) + 1)) (F64 : Ty).dft = l.getD (k + 1) 0 := by
      rw [Nat.zero_add, show Int.toNat ((k : Int) + 1) = k + 1 by omega]; rfl
    (repeat' (first | exact trivial | exact fun h => h | refine And.intro ?_ ?_ | (intro hb; first | (simp at hb; done) | (simp at hb) | skip) | omega | exact rfl | exact Nat.le_refl _ | (show _ + 1 ≤ 4294967296; omega) | (dsimp only; omega) | (show (_ : Int) ≤ (_ : Int); omega) | (show _ < List.length _; simp only [List.length_set, List.length_append, List.length_take]; omega) | (show wantB _ _ = true; simp; done) | (show wantB _ _ = true; simp; omega) | (show (_ : Bool) = _; simp_all; done) | (exfalso; omega) | refine aRegion_auto (by decide +kernel) ?_ | fail))
    refine ⟨k + 1, by show k + 1 ≤ n; omega, by show n - (k + 1) < n - k; omega, Ent.sub rfl ?_⟩
    (repeat' (first | exact trivial | exact rfl | refine And.intro ?_ ?_))
    · exact congrArg (AV.fz F64) (show fMM true .f64 (mmV true l k) (List.getD l (0 + Int.toNat ((k : Int) + 1)) (F64 : Ty).dft) = mmV true l (k + 1) by rw [g]; rfl)
  · have hk3 : k = n := by omega
    subst hk3
    (repeat' (first | exact trivial | exact fun h => h | refine And.intro ?_ ?_ | (intro hb; first | (simp at hb; done) | (simp at hb) | skip) | omega | exact rfl | exact Nat.le_refl _ | (show _ + 1 ≤ 4294967296; omega) | (dsimp only; omega) | (show (_ : Int) ≤ (_ : Int); omega) | (show _ < List.length _; simp only [List.length_set, List.length_append, List.length_take]; omega) | (show wantB _ _ = true; simp; done) | (show wantB _ _ = true; simp; omega) | (show (_ : Bool) = _; simp_all; done) | (exfalso; omega) | refine aRegion_auto (by decide +kernel) ?_ | fail))
    refine ⟨_, _, REnt.refl _ _ _, hK⟩
theorem zer_t {x y : Nat} (h : (FloatKind.f64.format.order x 0 = some Ordering.lt ∨ FloatKind.f64.format.order x 0 = some Ordering.eq) ∧ (FloatKind.f64.format.order y 0 = some Ordering.gt ∨ FloatKind.f64.format.order y 0 = some Ordering.eq)) : (leB x 0 && geB y 0) = true := by
  unfold leB geB; simp; exact h
theorem zer_f {x y : Nat} (h : FloatKind.f64.format.order x 0 = some Ordering.lt ∨ FloatKind.f64.format.order x 0 = some Ordering.eq → ¬FloatKind.f64.format.order y 0 = some Ordering.gt ∧ ¬FloatKind.f64.format.order y 0 = some Ordering.eq) : (leB x 0 && geB y 0) = false := by
  unfold leB geB; simp; exact h
set_option maxHeartbeats 4000000 in
theorem joinA (G : List (Nat × Value)) (a b : Nat × Nat) (how : Int) (hla : a.1 < 18446744073709551616 ∧ a.2 < 18446744073709551616) (hlb : b.1 < 18446744073709551616 ∧ b.2 < 18446744073709551616) (K : AV → List AO → Prop) (hK : K (.tup [.fz SpT (joinP a b how).1, .fz .bool (joinP a b how).2]) []) :
    ACall Try.prog G 21 [.fz SpT a, .fz SpT b, .fz (.int .u8) how] [] K := by
  obtain ⟨a1, a2⟩ := a
  obtain ⟨b1, b2⟩ := b
  unfold joinP at hK
  refine acall_mk (E := envAt G 96 0) (envOk _ _ _) Try.func21 rfl rfl rfl rfl rfl ?_
  (repeat' (first | exact trivial | exact fun h => h | refine And.intro ?_ ?_ | (intro hb; first | (simp at hb; done) | (simp at hb) | skip) | omega | exact rfl | exact Nat.le_refl _ | (show _ + 1 ≤ 4294967296; omega) | (dsimp only; omega) | (show (_ : Int) ≤ (_ : Int); omega) | (show _ < List.length _; simp only [List.length_set, List.length_append, List.length_take]; omega) | (show wantB _ _ = true; simp; done) | (show wantB _ _ = true; simp; omega) | (show (_ : Bool) = _; simp_all; done) | (exfalso; omega) | refine aRegion_auto (by decide +kernel) ?_ | fail))
  refine acall_conv [.dat SpT] _ _ _ rfl trivial (acall_frame0 rfl (soundA _ (a1, a2) _ ?_))
  cases hs : soundB (a1, a2)
  · rw [hs] at hK
    (repeat' (first | exact trivial | exact fun h => h | refine And.intro ?_ ?_ | (intro hb; first | (simp at hb; done) | (simp at hb) | skip) | omega | exact rfl | exact Nat.le_refl _ | (show _ + 1 ≤ 4294967296; omega) | (dsimp only; omega) | (show (_ : Int) ≤ (_ : Int); omega) | (show _ < List.length _; simp only [List.length_set, List.length_append, List.length_take]; omega) | (show wantB _ _ = true; simp; done) | (show wantB _ _ = true; simp; omega) | (show (_ : Bool) = _; simp_all; done) | (exfalso; omega) | refine aRegion_auto (by decide +kernel) ?_ | fail))
    refine ⟨_, _, (REnt.conv [.dat SpT, .keep] _ rfl trivial).trans (REnt.drop ⟨rfl, rfl⟩), ?_⟩
    exact hK
  (repeat' (first | exact trivial | exact fun h => h | refine And.intro ?_ ?_ | (intro hb; first | (simp at hb; done) | (simp at hb) | skip) | omega | exact rfl | exact Nat.le_refl _ | (show _ + 1 ≤ 4294967296; omega) | (dsimp only; omega) | (show (_ : Int) ≤ (_ : Int); omega) | (show _ < List.length _; simp only [List.length_set, List.length_append, List.length_take]; omega) | (show wantB _ _ = true; simp; done) | (show wantB _ _ = true; simp; omega) | (show (_ : Bool) = _; simp_all; done) | (exfalso; omega) | refine aRegion_auto (by decide +kernel) ?_ | fail))
  refine acall_conv [.dat SpT] _ _ _ rfl trivial (acall_frame0 rfl (soundA _ (b1, b2) _ ?_))
  cases hs2 : soundB (b1, b2)
  · rw [hs, hs2] at hK
    (repeat' (first | exact trivial | exact fun h => h | refine And.intro ?_ ?_ | (intro hb; first | (simp at hb; done) | (simp at hb) | skip) | omega | exact rfl | exact Nat.le_refl _ | (show _ + 1 ≤ 4294967296; omega) | (dsimp only; omega) | (show (_ : Int) ≤ (_ : Int); omega) | (show _ < List.length _; simp only [List.length_set, List.length_append, List.length_take]; omega) | (show wantB _ _ = true; simp; done) | (show wantB _ _ = true; simp; omega) | (show (_ : Bool) = _; simp_all; done) | (exfalso; omega) | refine aRegion_auto (by decide +kernel) ?_ | fail))
    refine ⟨_, _, (REnt.conv [.dat SpT, .keep] _ rfl trivial).trans (REnt.drop ⟨rfl, rfl⟩), ?_⟩
    exact hK
  rw [hs, hs2, if_pos (show (true && true) = true from rfl)] at hK
  have A := snd_of (a := (a1, a2)) hla.1 hla.2 hs
  have B := snd_of (a := (b1, b2)) hlb.1 hlb.2 hs2
  clear hla hlb hs hs2
  by_cases h1 : how = 43
  · rw [if_pos h1] at hK
    obtain ⟨p0, p1, p2⟩ := fadd_nb A.f1 B.f1
    obtain ⟨q0, q1, q2⟩ := fadd_nb A.f2 B.f2
    have p0' := some_iff p0
    have q0' := some_iff q0
    (repeat' (first | exact trivial | exact fun h => h | refine And.intro ?_ ?_ | (intro hb; first | (simp at hb; done) | (simp at hb) | skip) | omega | exact rfl | exact Nat.le_refl _ | (show _ + 1 ≤ 4294967296; omega) | (dsimp only; omega) | (show (_ : Int) ≤ (_ : Int); omega) | (show _ < List.length _; simp only [List.length_set, List.length_append, List.length_take]; omega) | (show wantB _ _ = true; simp; done) | (show wantB _ _ = true; simp; omega) | (show (_ : Bool) = _; simp_all; done) | (exfalso; omega) | refine aRegion_auto (by decide +kernel) ?_ | fail))
    all_goals first | exact p0' | exact q0' | skip
    refine acall_frame0 rfl (widerA _ (fadd a1 b1) (fadd a2 b2) p1 q1 _ ?_)
    (repeat' (first | exact trivial | exact fun h => h | refine And.intro ?_ ?_ | (intro hb; first | (simp at hb; done) | (simp at hb) | skip) | omega | exact rfl | exact Nat.le_refl _ | (show _ + 1 ≤ 4294967296; omega) | (dsimp only; omega) | (show (_ : Int) ≤ (_ : Int); omega) | (show _ < List.length _; simp only [List.length_set, List.length_append, List.length_take]; omega) | (show wantB _ _ = true; simp; done) | (show wantB _ _ = true; simp; omega) | (show (_ : Bool) = _; simp_all; done) | (exfalso; omega) | refine aRegion_auto (by decide +kernel) ?_ | fail))
    refine ⟨_, _, (REnt.conv [.dat SpT, .keep] _ rfl trivial).trans (REnt.drop ⟨rfl, rfl⟩), ?_⟩
    exact hK
  rw [if_neg h1] at hK
  by_cases h2 : how = 45
  · rw [if_pos h2] at hK
    obtain ⟨p0, p1, p2⟩ := fsub_nb A.f1 B.f2 B.n2.1
    obtain ⟨q0, q1, q2⟩ := fsub_nb A.f2 B.f1 B.n1.1
    have p0' := some_iff p0
    have q0' := some_iff q0
    (repeat' (first | exact trivial | exact fun h => h | refine And.intro ?_ ?_ | (intro hb; first | (simp at hb; done) | (simp at hb) | skip) | omega | exact rfl | exact Nat.le_refl _ | (show _ + 1 ≤ 4294967296; omega) | (dsimp only; omega) | (show (_ : Int) ≤ (_ : Int); omega) | (show _ < List.length _; simp only [List.length_set, List.length_append, List.length_take]; omega) | (show wantB _ _ = true; simp; done) | (show wantB _ _ = true; simp; omega) | (show (_ : Bool) = _; simp_all; done) | (exfalso; omega) | refine aRegion_auto (by decide +kernel) ?_ | fail))
    all_goals first | exact p0' | exact q0' | skip
    refine acall_frame0 rfl (widerA _ (fsub a1 b2) (fsub a2 b1) p1 q1 _ ?_)
    (repeat' (first | exact trivial | exact fun h => h | refine And.intro ?_ ?_ | (intro hb; first | (simp at hb; done) | (simp at hb) | skip) | omega | exact rfl | exact Nat.le_refl _ | (show _ + 1 ≤ 4294967296; omega) | (dsimp only; omega) | (show (_ : Int) ≤ (_ : Int); omega) | (show _ < List.length _; simp only [List.length_set, List.length_append, List.length_take]; omega) | (show wantB _ _ = true; simp; done) | (show wantB _ _ = true; simp; omega) | (show (_ : Bool) = _; simp_all; done) | (exfalso; omega) | refine aRegion_auto (by decide +kernel) ?_ | fail))
    refine ⟨_, _, (REnt.conv [.dat SpT, .keep] _ rfl trivial).trans (REnt.drop ⟨rfl, rfl⟩), ?_⟩
    exact hK
  rw [if_neg h2] at hK
  by_cases h3 : how = 42
  · rw [if_pos h3] at hK
    obtain ⟨p0, p1⟩ := fmul_nb A.f1 B.f1
    obtain ⟨q0, q1⟩ := fmul_nb A.f1 B.f2
    obtain ⟨r0, r1⟩ := fmul_nb A.f2 B.f1
    obtain ⟨s0, s1⟩ := fmul_nb A.f2 B.f2
    (repeat' (first | exact trivial | exact fun h => h | refine And.intro ?_ ?_ | (intro hb; first | (simp at hb; done) | (simp at hb) | skip) | omega | exact rfl | exact Nat.le_refl _ | (show _ + 1 ≤ 4294967296; omega) | (dsimp only; omega) | (show (_ : Int) ≤ (_ : Int); omega) | (show _ < List.length _; simp only [List.length_set, List.length_append, List.length_take]; omega) | (show wantB _ _ = true; simp; done) | (show wantB _ _ = true; simp; omega) | (show (_ : Bool) = _; simp_all; done) | (exfalso; omega) | refine aRegion_auto (by decide +kernel) ?_ | fail))
    apply exEff
    · refine acall_frame0 rfl (mulA _ a1 b1 p0 _ ?_)
      exact ⟨rfl, rfl⟩
    (repeat' (first | exact trivial | exact fun h => h | refine And.intro ?_ ?_ | (intro hb; first | (simp at hb; done) | (simp at hb) | skip) | omega | exact rfl | exact Nat.le_refl _ | (show _ + 1 ≤ 4294967296; omega) | (dsimp only; omega) | (show (_ : Int) ≤ (_ : Int); omega) | (show _ < List.length _; simp only [List.length_set, List.length_append, List.length_take]; omega) | (show wantB _ _ = true; simp; done) | (show wantB _ _ = true; simp; omega) | (show (_ : Bool) = _; simp_all; done) | (exfalso; omega) | refine aRegion_auto (by decide +kernel) ?_ | fail))
    apply exEff
    · refine acall_frame0 rfl (mulA _ a1 b2 q0 _ ?_)
      exact ⟨rfl, rfl⟩
    (repeat' (first | exact trivial | exact fun h => h | refine And.intro ?_ ?_ | (intro hb; first | (simp at hb; done) | (simp at hb) | skip) | omega | exact rfl | exact Nat.le_refl _ | (show _ + 1 ≤ 4294967296; omega) | (dsimp only; omega) | (show (_ : Int) ≤ (_ : Int); omega) | (show _ < List.length _; simp only [List.length_set, List.length_append, List.length_take]; omega) | (show wantB _ _ = true; simp; done) | (show wantB _ _ = true; simp; omega) | (show (_ : Bool) = _; simp_all; done) | (exfalso; omega) | refine aRegion_auto (by decide +kernel) ?_ | fail))
    apply exEff
    · refine acall_frame0 rfl (mulA _ a2 b1 r0 _ ?_)
      exact ⟨rfl, rfl⟩
    (repeat' (first | exact trivial | exact fun h => h | refine And.intro ?_ ?_ | (intro hb; first | (simp at hb; done) | (simp at hb) | skip) | omega | exact rfl | exact Nat.le_refl _ | (show _ + 1 ≤ 4294967296; omega) | (dsimp only; omega) | (show (_ : Int) ≤ (_ : Int); omega) | (show _ < List.length _; simp only [List.length_set, List.length_append, List.length_take]; omega) | (show wantB _ _ = true; simp; done) | (show wantB _ _ = true; simp; omega) | (show (_ : Bool) = _; simp_all; done) | (exfalso; omega) | refine aRegion_auto (by decide +kernel) ?_ | fail))
    apply exEff
    · refine acall_frame0 rfl (mulA _ a2 b2 s0 _ ?_)
      exact ⟨rfl, rfl⟩
    generalize fmul a1 b1 = w at *
    generalize fmul a1 b2 = x at *
    generalize fmul a2 b1 = y at *
    generalize fmul a2 b2 = z at *
    have hl4 := nb4 p1 q1 r1 s1
    (apply exEff; focus (repeat' (first | exact ⟨rfl, rfl⟩ | exact trivial | refine And.intro ?_ ?_ | omega | exact Nat.le_refl _ | (show _ + 1 ≤ 4294967296; omega))))
    (repeat' (first | exact trivial | exact fun h => h | refine And.intro ?_ ?_ | (intro hb; first | (simp at hb; done) | (simp at hb) | skip) | omega | exact rfl | exact Nat.le_refl _ | (show _ + 1 ≤ 4294967296; omega) | (dsimp only; omega) | (show (_ : Int) ≤ (_ : Int); omega) | (show _ < List.length _; simp only [List.length_set, List.length_append, List.length_take]; omega) | (show wantB _ _ = true; simp; done) | (show wantB _ _ = true; simp; omega) | (show (_ : Bool) = _; simp_all; done) | (exfalso; omega) | refine aRegion_auto (by decide +kernel) ?_ | fail))
    refine acall_frame [3] [.row F64 [w, x, y, z]] [.ref 0 0 4] rfl (by repeat' (first | exact rfl | exact trivial | refine And.intro ?_ ?_)) ⟨rfl, rfl⟩ rfl (minA _ [w, x, y, z] 3 rfl (by omega) hl4 _ ?_)
    (repeat' (first | exact trivial | exact fun h => h | refine And.intro ?_ ?_ | (intro hb; first | (simp at hb; done) | (simp at hb) | skip) | omega | exact rfl | exact Nat.le_refl _ | (show _ + 1 ≤ 4294967296; omega) | (dsimp only; omega) | (show (_ : Int) ≤ (_ : Int); omega) | (show _ < List.length _; simp only [List.length_set, List.length_append, List.length_take]; omega) | (show wantB _ _ = true; simp; done) | (show wantB _ _ = true; simp; omega) | (show (_ : Bool) = _; simp_all; done) | (exfalso; omega) | refine aRegion_auto (by decide +kernel) ?_ | fail))
    refine acall_frame [3] [.row F64 [w, x, y, z]] [.ref 0 0 4] rfl (by repeat' (first | exact rfl | exact trivial | refine And.intro ?_ ?_)) ⟨rfl, rfl⟩ rfl (maxA _ [w, x, y, z] 3 rfl (by omega) hl4 _ ?_)
    (repeat' (first | exact trivial | exact fun h => h | refine And.intro ?_ ?_ | (intro hb; first | (simp at hb; done) | (simp at hb) | skip) | omega | exact rfl | exact Nat.le_refl _ | (show _ + 1 ≤ 4294967296; omega) | (dsimp only; omega) | (show (_ : Int) ≤ (_ : Int); omega) | (show _ < List.length _; simp only [List.length_set, List.length_append, List.length_take]; omega) | (show wantB _ _ = true; simp; done) | (show wantB _ _ = true; simp; omega) | (show (_ : Bool) = _; simp_all; done) | (exfalso; omega) | refine aRegion_auto (by decide +kernel) ?_ | fail))
    refine acall_frame0 rfl (widerA _ (mmV false [w, x, y, z] 3) (mmV true [w, x, y, z] 3) (mm_nb false hl4 3 (by show 3 < 4; omega)) (mm_nb true hl4 3 (by show 3 < 4; omega)) _ ?_)
    (repeat' (first | exact trivial | exact fun h => h | refine And.intro ?_ ?_ | (intro hb; first | (simp at hb; done) | (simp at hb) | skip) | omega | exact rfl | exact Nat.le_refl _ | (show _ + 1 ≤ 4294967296; omega) | (dsimp only; omega) | (show (_ : Int) ≤ (_ : Int); omega) | (show _ < List.length _; simp only [List.length_set, List.length_append, List.length_take]; omega) | (show wantB _ _ = true; simp; done) | (show wantB _ _ = true; simp; omega) | (show (_ : Bool) = _; simp_all; done) | (exfalso; omega) | refine aRegion_auto (by decide +kernel) ?_ | fail))
    refine ⟨_, _, (REnt.conv [.dat SpT, .keep] _ rfl trivial).trans (REnt.drop ⟨rfl, rfl⟩), ?_⟩
    exact hK
  rw [if_neg h3] at hK
  by_cases h4 : how = 47
  · rw [if_pos h4] at hK
    (repeat' (first | exact trivial | exact fun h => h | refine And.intro ?_ ?_ | (intro hb; first | (simp at hb; done) | (simp at hb) | skip) | omega | exact rfl | exact Nat.le_refl _ | (show _ + 1 ≤ 4294967296; omega) | (dsimp only; omega) | (show (_ : Int) ≤ (_ : Int); omega) | (show _ < List.length _; simp only [List.length_set, List.length_append, List.length_take]; omega) | (show wantB _ _ = true; simp; done) | (show wantB _ _ = true; simp; omega) | (show (_ : Bool) = _; simp_all; done) | (exfalso; omega) | refine aRegion_auto (by decide +kernel) ?_ | fail))
    · rw [zer_t hb] at hK
      refine ⟨_, _, (REnt.conv [.dat SpT, .keep] _ rfl trivial).trans (REnt.drop ⟨rfl, rfl⟩), ?_⟩
      exact hK
    · have hz := zer_f hb
      rw [hz] at hK
      obtain ⟨z1, z2⟩ := no_zero B hz
      obtain ⟨p0, p1⟩ := fdiv_nb A.f1 B.f1 z1
      obtain ⟨q0, q1⟩ := fdiv_nb A.f1 B.f2 z2
      obtain ⟨r0, r1⟩ := fdiv_nb A.f2 B.f1 z1
      obtain ⟨s0, s1⟩ := fdiv_nb A.f2 B.f2 z2
      apply exEff
      · refine acall_frame0 rfl (divA _ a1 b1 p0 _ ?_)
        exact ⟨rfl, rfl⟩
      (repeat' (first | exact trivial | exact fun h => h | refine And.intro ?_ ?_ | (intro hb; first | (simp at hb; done) | (simp at hb) | skip) | omega | exact rfl | exact Nat.le_refl _ | (show _ + 1 ≤ 4294967296; omega) | (dsimp only; omega) | (show (_ : Int) ≤ (_ : Int); omega) | (show _ < List.length _; simp only [List.length_set, List.length_append, List.length_take]; omega) | (show wantB _ _ = true; simp; done) | (show wantB _ _ = true; simp; omega) | (show (_ : Bool) = _; simp_all; done) | (exfalso; omega) | refine aRegion_auto (by decide +kernel) ?_ | fail))
      apply exEff
      · refine acall_frame0 rfl (divA _ a1 b2 q0 _ ?_)
        exact ⟨rfl, rfl⟩
      (repeat' (first | exact trivial | exact fun h => h | refine And.intro ?_ ?_ | (intro hb; first | (simp at hb; done) | (simp at hb) | skip) | omega | exact rfl | exact Nat.le_refl _ | (show _ + 1 ≤ 4294967296; omega) | (dsimp only; omega) | (show (_ : Int) ≤ (_ : Int); omega) | (show _ < List.length _; simp only [List.length_set, List.length_append, List.length_take]; omega) | (show wantB _ _ = true; simp; done) | (show wantB _ _ = true; simp; omega) | (show (_ : Bool) = _; simp_all; done) | (exfalso; omega) | refine aRegion_auto (by decide +kernel) ?_ | fail))
      apply exEff
      · refine acall_frame0 rfl (divA _ a2 b1 r0 _ ?_)
        exact ⟨rfl, rfl⟩
      (repeat' (first | exact trivial | exact fun h => h | refine And.intro ?_ ?_ | (intro hb; first | (simp at hb; done) | (simp at hb) | skip) | omega | exact rfl | exact Nat.le_refl _ | (show _ + 1 ≤ 4294967296; omega) | (dsimp only; omega) | (show (_ : Int) ≤ (_ : Int); omega) | (show _ < List.length _; simp only [List.length_set, List.length_append, List.length_take]; omega) | (show wantB _ _ = true; simp; done) | (show wantB _ _ = true; simp; omega) | (show (_ : Bool) = _; simp_all; done) | (exfalso; omega) | refine aRegion_auto (by decide +kernel) ?_ | fail))
      apply exEff
      · refine acall_frame0 rfl (divA _ a2 b2 s0 _ ?_)
        exact ⟨rfl, rfl⟩
      generalize fdiv a1 b1 = w at *
      generalize fdiv a1 b2 = x at *
      generalize fdiv a2 b1 = y at *
      generalize fdiv a2 b2 = z at *
      have hl4 := nb4 p1 q1 r1 s1
      (apply exEff; focus (repeat' (first | exact ⟨rfl, rfl⟩ | exact trivial | refine And.intro ?_ ?_ | omega | exact Nat.le_refl _ | (show _ + 1 ≤ 4294967296; omega))))
      (repeat' (first | exact trivial | exact fun h => h | refine And.intro ?_ ?_ | (intro hb; first | (simp at hb; done) | (simp at hb) | skip) | omega | exact rfl | exact Nat.le_refl _ | (show _ + 1 ≤ 4294967296; omega) | (dsimp only; omega) | (show (_ : Int) ≤ (_ : Int); omega) | (show _ < List.length _; simp only [List.length_set, List.length_append, List.length_take]; omega) | (show wantB _ _ = true; simp; done) | (show wantB _ _ = true; simp; omega) | (show (_ : Bool) = _; simp_all; done) | (exfalso; omega) | refine aRegion_auto (by decide +kernel) ?_ | fail))
      refine acall_frame [3] [.row F64 [w, x, y, z]] [.ref 0 0 4] rfl (by repeat' (first | exact rfl | exact trivial | refine And.intro ?_ ?_)) ⟨rfl, rfl⟩ rfl (minA _ [w, x, y, z] 3 rfl (by omega) hl4 _ ?_)
      (repeat' (first | exact trivial | exact fun h => h | refine And.intro ?_ ?_ | (intro hb; first | (simp at hb; done) | (simp at hb) | skip) | omega | exact rfl | exact Nat.le_refl _ | (show _ + 1 ≤ 4294967296; omega) | (dsimp only; omega) | (show (_ : Int) ≤ (_ : Int); omega) | (show _ < List.length _; simp only [List.length_set, List.length_append, List.length_take]; omega) | (show wantB _ _ = true; simp; done) | (show wantB _ _ = true; simp; omega) | (show (_ : Bool) = _; simp_all; done) | (exfalso; omega) | refine aRegion_auto (by decide +kernel) ?_ | fail))
      refine acall_frame [3] [.row F64 [w, x, y, z]] [.ref 0 0 4] rfl (by repeat' (first | exact rfl | exact trivial | refine And.intro ?_ ?_)) ⟨rfl, rfl⟩ rfl (maxA _ [w, x, y, z] 3 rfl (by omega) hl4 _ ?_)
      (repeat' (first | exact trivial | exact fun h => h | refine And.intro ?_ ?_ | (intro hb; first | (simp at hb; done) | (simp at hb) | skip) | omega | exact rfl | exact Nat.le_refl _ | (show _ + 1 ≤ 4294967296; omega) | (dsimp only; omega) | (show (_ : Int) ≤ (_ : Int); omega) | (show _ < List.length _; simp only [List.length_set, List.length_append, List.length_take]; omega) | (show wantB _ _ = true; simp; done) | (show wantB _ _ = true; simp; omega) | (show (_ : Bool) = _; simp_all; done) | (exfalso; omega) | refine aRegion_auto (by decide +kernel) ?_ | fail))
      refine acall_frame0 rfl (widerA _ (mmV false [w, x, y, z] 3) (mmV true [w, x, y, z] 3) (mm_nb false hl4 3 (by show 3 < 4; omega)) (mm_nb true hl4 3 (by show 3 < 4; omega)) _ ?_)
      (repeat' (first | exact trivial | exact fun h => h | refine And.intro ?_ ?_ | (intro hb; first | (simp at hb; done) | (simp at hb) | skip) | omega | exact rfl | exact Nat.le_refl _ | (show _ + 1 ≤ 4294967296; omega) | (dsimp only; omega) | (show (_ : Int) ≤ (_ : Int); omega) | (show _ < List.length _; simp only [List.length_set, List.length_append, List.length_take]; omega) | (show wantB _ _ = true; simp; done) | (show wantB _ _ = true; simp; omega) | (show (_ : Bool) = _; simp_all; done) | (exfalso; omega) | refine aRegion_auto (by decide +kernel) ?_ | fail))
      refine ⟨_, _, (REnt.conv [.dat SpT, .keep] _ rfl trivial).trans (REnt.drop ⟨rfl, rfl⟩), ?_⟩
      exact hK
  · rw [if_neg h4] at hK
    (repeat' (first | exact trivial | exact fun h => h | refine And.intro ?_ ?_ | (intro hb; first | (simp at hb; done) | (simp at hb) | skip) | omega | exact rfl | exact Nat.le_refl _ | (show _ + 1 ≤ 4294967296; omega) | (dsimp only; omega) | (show (_ : Int) ≤ (_ : Int); omega) | (show _ < List.length _; simp only [List.length_set, List.length_append, List.length_take]; omega) | (show wantB _ _ = true; simp; done) | (show wantB _ _ = true; simp; omega) | (show (_ : Bool) = _; simp_all; done) | (exfalso; omega) | refine aRegion_auto (by decide +kernel) ?_ | fail))
    refine ⟨_, _, (REnt.conv [.dat SpT, .keep] _ rfl trivial).trans (REnt.drop ⟨rfl, rfl⟩), ?_⟩
    exact hK
end Go.Proofs.Ytlmmhmoihmlljaa
/-
  Spans: what two give, as the document has it, walked.
-/
namespace Go.Proofs.Ytlmmhmoihmlljaa
open Go Go.Ab Go.RowKit
set_option maxRecDepth 100000
/-- branches that join at a cut -/
structure BxA {α : Type} (I c : α → Prop) : Prop where
  out : ∀ x, I x → c x
theorem mergeA {α : Type} (I : α → Prop) {c : α → Prop} {g : Prop} (f : BxA I c → g) (h : ∀ x, I x → c x) : g := f ⟨h⟩
set_option maxHeartbeats 4000000 in
theorem joinOfA (G : List (Nat × Value)) (a b : Nat × Nat) (how : Int) (hla : a.1 < 18446744073709551616 ∧ a.2 < 18446744073709551616) (hlb : b.1 < 18446744073709551616 ∧ b.2 < 18446744073709551616) (K : AV → List AO → Prop) (hK : K (.tup [.fz SpT (joinD a b how).1, .fz .bool (joinD a b how).2]) []) :
    ACall Try.prog G 22 [.fz SpT a, .fz SpT b, .fz (.int .u8) how] [] K := by
  obtain ⟨a1, a2⟩ := a
  obtain ⟨b1, b2⟩ := b
  have hK0 := hK
  unfold joinD at hK
  refine acall_mk (E := envCut G 153 0 [18]) (envCutOk _ _ _ _) Try.func22 rfl rfl rfl rfl rfl ?_
  apply mergeA (fun l : List Nat => (1 ≤ l.length ∧ l.length ≤ 4) ∧ (∀ i, i < l.length → nb (l.getD i 0)) ∧ joinD (a1, a2) (b1, b2) how = widD (loV l (l.length - 1)) (hiV l (l.length - 1)))
  · intro hc
    (repeat' (first | exact trivial | exact fun h => h | refine And.intro ?_ ?_ | (intro hb; first | (simp at hb; done) | (simp at hb) | skip) | omega | exact rfl | exact Nat.le_refl _ | (show _ + 1 ≤ 4294967296; omega) | (dsimp only; omega) | (show (_ : Int) ≤ (_ : Int); omega) | (show _ < List.length _; simp only [List.length_set, List.length_append, List.length_take]; omega) | (show wantB _ _ = true; simp; done) | (show wantB _ _ = true; simp; omega) | (show (_ : Bool) = _; simp_all; done) | (exfalso; omega) | refine aRegion_auto (by decide +kernel) ?_ | fail))
    refine acall_conv [.dat SpT] _ _ _ rfl trivial (acall_frame0 rfl (isSpanA _ (a1, a2) _ ?_))
    (repeat' (first | exact trivial | exact fun h => h | refine And.intro ?_ ?_ | (intro hb; first | (simp at hb; done) | (simp at hb) | skip) | omega | exact rfl | exact Nat.le_refl _ | (show _ + 1 ≤ 4294967296; omega) | (dsimp only; omega) | (show (_ : Int) ≤ (_ : Int); omega) | (show _ < List.length _; simp only [List.length_set, List.length_append, List.length_take]; omega) | (show wantB _ _ = true; simp; done) | (show wantB _ _ = true; simp; omega) | (show (_ : Bool) = _; simp_all; done) | (exfalso; omega) | refine aRegion_auto (by decide +kernel) ?_ | fail))
    refine acall_conv [.dat SpT] _ _ _ rfl trivial (acall_frame0 rfl (isSpanA _ (b1, b2) _ ?_))
    cases hs : soundB (a1, a2)
    · rw [hs] at hK
      (repeat' (first | exact trivial | exact fun h => h | refine And.intro ?_ ?_ | (intro hb; first | (simp at hb; done) | (simp at hb) | skip) | omega | exact rfl | exact Nat.le_refl _ | (show _ + 1 ≤ 4294967296; omega) | (dsimp only; omega) | (show (_ : Int) ≤ (_ : Int); omega) | (show _ < List.length _; simp only [List.length_set, List.length_append, List.length_take]; omega) | (show wantB _ _ = true; simp; done) | (show wantB _ _ = true; simp; omega) | (show (_ : Bool) = _; simp_all; done) | (exfalso; omega) | refine aRegion_auto (by decide +kernel) ?_ | fail))
      refine ⟨_, _, (REnt.conv [.dat SpT, .keep] _ rfl trivial).trans (REnt.drop ⟨rfl, rfl⟩), ?_⟩
      exact hK
    cases hs2 : soundB (b1, b2)
    · rw [hs, hs2] at hK
      (repeat' (first | exact trivial | exact fun h => h | refine And.intro ?_ ?_ | (intro hb; first | (simp at hb; done) | (simp at hb) | skip) | omega | exact rfl | exact Nat.le_refl _ | (show _ + 1 ≤ 4294967296; omega) | (dsimp only; omega) | (show (_ : Int) ≤ (_ : Int); omega) | (show _ < List.length _; simp only [List.length_set, List.length_append, List.length_take]; omega) | (show wantB _ _ = true; simp; done) | (show wantB _ _ = true; simp; omega) | (show (_ : Bool) = _; simp_all; done) | (exfalso; omega) | refine aRegion_auto (by decide +kernel) ?_ | fail))
      refine ⟨_, _, (REnt.conv [.dat SpT, .keep] _ rfl trivial).trans (REnt.drop ⟨rfl, rfl⟩), ?_⟩
      exact hK
    rw [hs, hs2, if_pos (show (true && true) = true from rfl)] at hK
    have hj : joinD (a1, a2) (b1, b2) how = (if how = 43 then widD (loV [fadd a1 b1, fadd a2 b2] 1) (hiV [fadd a1 b1, fadd a2 b2] 1) else if how = 45 then widD (loV [fsub a1 b2, fsub a2 b1] 1) (hiV [fsub a1 b2, fsub a2 b1] 1)
      else if how = 42 then widD (loV [fmul a1 b1, fmul a1 b2, fmul a2 b1, fmul a2 b2] 3) (hiV [fmul a1 b1, fmul a1 b2, fmul a2 b1, fmul a2 b2] 3)
      else if how = 47 then (if (leB b1 0 && geB b2 0) = true then ((0, 0), false) else widD (loV [fdiv a1 b1, fdiv a1 b2, fdiv a2 b1, fdiv a2 b2] 3) (hiV [fdiv a1 b1, fdiv a1 b2, fdiv a2 b1, fdiv a2 b2] 3))
      else ((0, 0), false)) := by
      unfold joinD
      rw [hs, hs2, if_pos (show (true && true) = true from rfl)]
    have A := snd_of (a := (a1, a2)) hla.1 hla.2 hs
    have B := snd_of (a := (b1, b2)) hlb.1 hlb.2 hs2
    clear hs hs2
    by_cases h1 : how = 43
    · rw [if_pos h1] at hj
      obtain ⟨p0, p1, p2⟩ := fadd_nb A.f1 B.f1
      obtain ⟨q0, q1, q2⟩ := fadd_nb A.f2 B.f2
      have p0' := some_iff p0
      have q0' := some_iff q0
      (repeat' (first | exact trivial | exact fun h => h | refine And.intro ?_ ?_ | (intro hb; first | (simp at hb; done) | (simp at hb) | skip) | omega | exact rfl | exact Nat.le_refl _ | (show _ + 1 ≤ 4294967296; omega) | (dsimp only; omega) | (show (_ : Int) ≤ (_ : Int); omega) | (show _ < List.length _; simp only [List.length_set, List.length_append, List.length_take]; omega) | (show wantB _ _ = true; simp; done) | (show wantB _ _ = true; simp; omega) | (show (_ : Bool) = _; simp_all; done) | (exfalso; omega) | refine aRegion_auto (by decide +kernel) ?_ | fail))
      all_goals first | exact p0' | exact q0' | skip
      · show (2 : Nat) ≤ 4294967296
        omega
      obtain ⟨l, hl⟩ : ∃ l, l = [fadd a1 b1, fadd a2 b2] := ⟨_, rfl⟩
      refine ⟨[(6, .ptr 2 0), (10, .ref 3 0 l.length)], [.box [.fz F64 a1, .fz F64 a2], .box [.fz F64 b1, .fz F64 b2], .box [.fz F64 (0 : Nat), .fz F64 (0 : Nat)], .row F64 l], Ent.ren [0, 1, 2, 4] rfl ?_ ?_, hc.out l ⟨by rw [hl]; exact ⟨by show 1 ≤ 2; omega, by show 2 ≤ 4; omega⟩, by rw [hl]; exact nb2 p1 q1, by rw [hl]; exact hj⟩⟩
      · (repeat' (first | exact trivial | exact rfl | refine And.intro ?_ ?_))
        exact congrArg (fun x => some (AO.row F64 x)) hl.symm
      · (repeat' (first | exact trivial | exact rfl | refine And.intro ?_ ?_))
        exact congrArg (AV.ref 4 0) (show 2 = l.length by rw [hl]; rfl)
    rw [if_neg h1] at hj
    by_cases h2 : how = 45
    · rw [if_pos h2] at hj
      obtain ⟨p0, p1, p2⟩ := fsub_nb A.f1 B.f2 B.n2.1
      obtain ⟨q0, q1, q2⟩ := fsub_nb A.f2 B.f1 B.n1.1
      have p0' := some_iff p0
      have q0' := some_iff q0
      (repeat' (first | exact trivial | exact fun h => h | refine And.intro ?_ ?_ | (intro hb; first | (simp at hb; done) | (simp at hb) | skip) | omega | exact rfl | exact Nat.le_refl _ | (show _ + 1 ≤ 4294967296; omega) | (dsimp only; omega) | (show (_ : Int) ≤ (_ : Int); omega) | (show _ < List.length _; simp only [List.length_set, List.length_append, List.length_take]; omega) | (show wantB _ _ = true; simp; done) | (show wantB _ _ = true; simp; omega) | (show (_ : Bool) = _; simp_all; done) | (exfalso; omega) | refine aRegion_auto (by decide +kernel) ?_ | fail))
      all_goals first | exact p0' | exact q0' | skip
      · show (2 : Nat) ≤ 4294967296
        omega
      obtain ⟨l, hl⟩ : ∃ l, l = [fsub a1 b2, fsub a2 b1] := ⟨_, rfl⟩
      refine ⟨[(6, .ptr 2 0), (10, .ref 3 0 l.length)], [.box [.fz F64 a1, .fz F64 a2], .box [.fz F64 b1, .fz F64 b2], .box [.fz F64 (0 : Nat), .fz F64 (0 : Nat)], .row F64 l], Ent.ren [0, 1, 2, 4] rfl ?_ ?_, hc.out l ⟨by rw [hl]; exact ⟨by show 1 ≤ 2; omega, by show 2 ≤ 4; omega⟩, by rw [hl]; exact nb2 p1 q1, by rw [hl]; exact hj⟩⟩
      · (repeat' (first | exact trivial | exact rfl | refine And.intro ?_ ?_))
        exact congrArg (fun x => some (AO.row F64 x)) hl.symm
      · (repeat' (first | exact trivial | exact rfl | refine And.intro ?_ ?_))
        exact congrArg (AV.ref 4 0) (show 2 = l.length by rw [hl]; rfl)
    rw [if_neg h2] at hj
    by_cases h3 : how = 42
    · rw [if_pos h3] at hj
      obtain ⟨p0, p1⟩ := fmul_nb A.f1 B.f1
      obtain ⟨q0, q1⟩ := fmul_nb A.f1 B.f2
      obtain ⟨r0, r1⟩ := fmul_nb A.f2 B.f1
      obtain ⟨s0, s1⟩ := fmul_nb A.f2 B.f2
      have p0' := some_iff p0
      have q0' := some_iff q0
      have r0' := some_iff r0
      have s0' := some_iff s0
      (repeat' (first | exact trivial | exact fun h => h | refine And.intro ?_ ?_ | (intro hb; first | (simp at hb; done) | (simp at hb) | skip) | omega | exact rfl | exact Nat.le_refl _ | (show _ + 1 ≤ 4294967296; omega) | (dsimp only; omega) | (show (_ : Int) ≤ (_ : Int); omega) | (show _ < List.length _; simp only [List.length_set, List.length_append, List.length_take]; omega) | (show wantB _ _ = true; simp; done) | (show wantB _ _ = true; simp; omega) | (show (_ : Bool) = _; simp_all; done) | (exfalso; omega) | refine aRegion_auto (by decide +kernel) ?_ | fail))
      all_goals first | exact p0' | exact q0' | exact r0' | exact s0' | skip
      · show (4 : Nat) ≤ 4294967296
        omega
      obtain ⟨l, hl⟩ : ∃ l, l = [fmul a1 b1, fmul a1 b2, fmul a2 b1, fmul a2 b2] := ⟨_, rfl⟩
      refine ⟨[(6, .ptr 2 0), (10, .ref 3 0 l.length)], [.box [.fz F64 a1, .fz F64 a2], .box [.fz F64 b1, .fz F64 b2], .box [.fz F64 (0 : Nat), .fz F64 (0 : Nat)], .row F64 l], Ent.ren [0, 1, 2, 4] rfl ?_ ?_, hc.out l ⟨by rw [hl]; exact ⟨by show 1 ≤ 4; omega, by show 4 ≤ 4; omega⟩, by rw [hl]; exact nb4 p1 q1 r1 s1, by rw [hl]; exact hj⟩⟩
      · (repeat' (first | exact trivial | exact rfl | refine And.intro ?_ ?_))
        exact congrArg (fun x => some (AO.row F64 x)) hl.symm
      · (repeat' (first | exact trivial | exact rfl | refine And.intro ?_ ?_))
        exact congrArg (AV.ref 4 0) (show 4 = l.length by rw [hl]; rfl)
    rw [if_neg h3] at hj
    by_cases h4 : how = 47
    · rw [if_pos h4] at hj
      cases hz : leB b1 0 && geB b2 0
      · rw [hz] at hj
        obtain ⟨z1, z2⟩ := no_zero B hz
        obtain ⟨p0, p1⟩ := fdiv_nb A.f1 B.f1 z1
        obtain ⟨q0, q1⟩ := fdiv_nb A.f1 B.f2 z2
        obtain ⟨r0, r1⟩ := fdiv_nb A.f2 B.f1 z1
        obtain ⟨s0, s1⟩ := fdiv_nb A.f2 B.f2 z2
        have p0' := some_iff p0
        have q0' := some_iff q0
        have r0' := some_iff r0
        have s0' := some_iff s0
        (repeat' (first | exact trivial | exact fun h => h | refine And.intro ?_ ?_ | (intro hb; first | (simp at hb; done) | (simp at hb) | skip) | omega | exact rfl | exact Nat.le_refl _ | (show _ + 1 ≤ 4294967296; omega) | (dsimp only; omega) | (show (_ : Int) ≤ (_ : Int); omega) | (show _ < List.length _; simp only [List.length_set, List.length_append, List.length_take]; omega) | (show wantB _ _ = true; simp; done) | (show wantB _ _ = true; simp; omega) | (show (_ : Bool) = _; simp_all; done) | (exfalso; omega) | refine aRegion_auto (by decide +kernel) ?_ | fail))
        · rw [zer_t hb] at hz; cases hz
        all_goals first | exact p0' | exact q0' | exact r0' | exact s0' | skip
        · show (4 : Nat) ≤ 4294967296
          omega
        obtain ⟨l, hl⟩ : ∃ l, l = [fdiv a1 b1, fdiv a1 b2, fdiv a2 b1, fdiv a2 b2] := ⟨_, rfl⟩
        refine ⟨[(6, .ptr 2 0), (10, .ref 3 0 l.length)], [.box [.fz F64 a1, .fz F64 a2], .box [.fz F64 b1, .fz F64 b2], .box [.fz F64 (0 : Nat), .fz F64 (0 : Nat)], .row F64 l], Ent.ren [0, 1, 2, 4] rfl ?_ ?_, hc.out l ⟨by rw [hl]; exact ⟨by show 1 ≤ 4; omega, by show 4 ≤ 4; omega⟩, by rw [hl]; exact nb4 p1 q1 r1 s1, by rw [hl]; exact hj⟩⟩
        · (repeat' (first | exact trivial | exact rfl | refine And.intro ?_ ?_))
          exact congrArg (fun x => some (AO.row F64 x)) hl.symm
        · (repeat' (first | exact trivial | exact rfl | refine And.intro ?_ ?_))
          exact congrArg (AV.ref 4 0) (show 4 = l.length by rw [hl]; rfl)
      · rw [hz] at hj
        have hK1 : K (.tup [.fz SpT (0, 0), .fz .bool false]) [] := by rw [hj] at hK0; exact hK0
        (repeat' (first | exact trivial | exact fun h => h | refine And.intro ?_ ?_ | (intro hb; first | (simp at hb; done) | (simp at hb) | skip) | omega | exact rfl | exact Nat.le_refl _ | (show _ + 1 ≤ 4294967296; omega) | (dsimp only; omega) | (show (_ : Int) ≤ (_ : Int); omega) | (show _ < List.length _; simp only [List.length_set, List.length_append, List.length_take]; omega) | (show wantB _ _ = true; simp; done) | (show wantB _ _ = true; simp; omega) | (show (_ : Bool) = _; simp_all; done) | (exfalso; omega) | refine aRegion_auto (by decide +kernel) ?_ | fail))
        · refine ⟨_, _, (REnt.conv [.dat SpT, .keep] _ rfl trivial).trans (REnt.drop ⟨rfl, rfl⟩), ?_⟩
          exact hK1
        all_goals exact absurd (hz.symm.trans (zer_f hb)) (by decide)
    · rw [if_neg h4] at hj
      have hK1 : K (.tup [.fz SpT (0, 0), .fz .bool false]) [] := by rw [hj] at hK0; exact hK0
      (repeat' (first | exact trivial | exact fun h => h | refine And.intro ?_ ?_ | (intro hb; first | (simp at hb; done) | (simp at hb) | skip) | omega | exact rfl | exact Nat.le_refl _ | (show _ + 1 ≤ 4294967296; omega) | (dsimp only; omega) | (show (_ : Int) ≤ (_ : Int); omega) | (show _ < List.length _; simp only [List.length_set, List.length_append, List.length_take]; omega) | (show wantB _ _ = true; simp; done) | (show wantB _ _ = true; simp; omega) | (show (_ : Bool) = _; simp_all; done) | (exfalso; omega) | refine aRegion_auto (by decide +kernel) ?_ | fail))
      refine ⟨_, _, (REnt.conv [.dat SpT, .keep] _ rfl trivial).trans (REnt.drop ⟨rfl, rfl⟩), ?_⟩
      exact hK1
  · intro l ⟨⟨l1, l4⟩, hl, hj⟩
    rw [hj] at hK0
    have hl0 := hl 0 l1
    (repeat' (first | exact trivial | exact fun h => h | refine And.intro ?_ ?_ | (intro hb; first | (simp at hb; done) | (simp at hb) | skip) | omega | exact rfl | exact Nat.le_refl _ | (show _ + 1 ≤ 4294967296; omega) | (dsimp only; omega) | (show (_ : Int) ≤ (_ : Int); omega) | (show _ < List.length _; simp only [List.length_set, List.length_append, List.length_take]; omega) | (show wantB _ _ = true; simp; done) | (show wantB _ _ = true; simp; omega) | (show (_ : Bool) = _; simp_all; done) | (exfalso; omega) | refine aRegion_auto (by decide +kernel) ?_ | fail))
    refine ⟨Nat, fun k => ⟨[(6, .ptr 2 0), (10, .ref 3 0 l.length), (11, .fz F64 (loV l k)), (12, .fz F64 (hiV l k)), (13, .fz int ((k : Int) + 1))], [.box [.fz F64 a1, .fz F64 a2], .box [.fz F64 b1, .fz F64 b2], .box [.fz F64 (0 : Nat), .fz F64 (0 : Nat)], .row F64 l]⟩, fun k => k + 1 ≤ l.length, fun k => l.length - k, 0, l1, Ent.sub rfl ?_, ?_⟩
    · (repeat' (first | exact trivial | exact rfl | refine And.intro ?_ ?_))
    intro k hk
    have hk : k + 1 ≤ l.length := hk
    show awp _ _ _ ⟨[(6, .ptr 2 0), (10, .ref 3 0 l.length), (11, .fz F64 (loV l k)), (12, .fz F64 (hiV l k)), (13, .fz int ((k : Int) + 1))], [.box [.fz F64 a1, .fz F64 a2], .box [.fz F64 b1, .fz F64 b2], .box [.fz F64 (0 : Nat), .fz F64 (0 : Nat)], .row F64 l]⟩
    by_cases hk2 : k + 1 < l.length
    · have gq : l[k + 1]?.getD (F64 : Ty).dft = l.getD (k + 1) 0 := rfl
      have gl : List.getD l (0 + Int.toNat ((k : Int) + 1)) (F64 : Ty).dft = l.getD (k + 1) 0 := by
        rw [Nat.zero_add, show Int.toNat ((k : Int) + 1) = k + 1 by omega]; rfl
      have eL1 : FloatKind.f64.format.order (l[k + 1]?.getD (F64 : Ty).dft) (loV l k) = some Ordering.lt → List.getD l (0 + Int.toNat ((k : Int) + 1)) (F64 : Ty).dft = loV l (k + 1) := fun h => by
        rw [gl, loV, if_pos (by rw [← gq, h]; rfl)]
      have eL0 : ¬FloatKind.f64.format.order (l[k + 1]?.getD (F64 : Ty).dft) (loV l k) = some Ordering.lt → loV l k = loV l (k + 1) := fun h => by
        rw [loV, if_neg (fun c => h (by rw [gq]; simpa using c))]
      have eH1 : FloatKind.f64.format.order (l[k + 1]?.getD (F64 : Ty).dft) (hiV l k) = some Ordering.gt → List.getD l (0 + Int.toNat ((k : Int) + 1)) (F64 : Ty).dft = hiV l (k + 1) := fun h => by
        rw [gl, hiV, if_pos (by rw [← gq, h]; rfl)]
      have eH0 : ¬FloatKind.f64.format.order (l[k + 1]?.getD (F64 : Ty).dft) (hiV l k) = some Ordering.gt → hiV l k = hiV l (k + 1) := fun h => by
        rw [hiV, if_neg (fun c => h (by rw [gq]; simpa using c))]
      (repeat' (first | exact trivial | exact fun h => h | refine And.intro ?_ ?_ | (intro hb; first | (simp at hb; done) | (simp at hb) | skip) | omega | exact rfl | exact Nat.le_refl _ | (show _ + 1 ≤ 4294967296; omega) | (dsimp only; omega) | (show (_ : Int) ≤ (_ : Int); omega) | (show _ < List.length _; simp only [List.length_set, List.length_append, List.length_take]; omega) | (show wantB _ _ = true; simp; done) | (show wantB _ _ = true; simp; omega) | (show (_ : Bool) = _; simp_all; done) | (exfalso; omega) | refine aRegion_auto (by decide +kernel) ?_ | fail))
      all_goals rename_i hx hy
      · refine ⟨k + 1, by show k + 1 + 1 ≤ l.length; omega, by show l.length - (k + 1) < l.length - k; omega, Ent.sub rfl ?_⟩
        (repeat' (first | exact trivial | exact rfl | refine And.intro ?_ ?_))
        · exact congrArg (AV.fz F64) (eL1 hy)
        · exact congrArg (AV.fz F64) (eH1 hb)
      · refine ⟨k + 1, by show k + 1 + 1 ≤ l.length; omega, by show l.length - (k + 1) < l.length - k; omega, Ent.sub rfl ?_⟩
        (repeat' (first | exact trivial | exact rfl | refine And.intro ?_ ?_))
        · exact congrArg (AV.fz F64) (eL1 hy)
        · exact congrArg (AV.fz F64) (eH0 hb)
      · refine ⟨k + 1, by show k + 1 + 1 ≤ l.length; omega, by show l.length - (k + 1) < l.length - k; omega, Ent.sub rfl ?_⟩
        (repeat' (first | exact trivial | exact rfl | refine And.intro ?_ ?_))
        · exact congrArg (AV.fz F64) (eL0 hy)
        · exact congrArg (AV.fz F64) (eH1 hb)
      · refine ⟨k + 1, by show k + 1 + 1 ≤ l.length; omega, by show l.length - (k + 1) < l.length - k; omega, Ent.sub rfl ?_⟩
        (repeat' (first | exact trivial | exact rfl | refine And.intro ?_ ?_))
        · exact congrArg (AV.fz F64) (eL0 hy)
        · exact congrArg (AV.fz F64) (eH0 hb)
    · have hk3 : k = l.length - 1 := by omega
      obtain ⟨⟨m1, m2, _⟩, ⟨n1, n2, _⟩, _, _⟩ := mm_keys hl k hk
      (repeat' (first | exact trivial | exact fun h => h | refine And.intro ?_ ?_ | (intro hb; first | (simp at hb; done) | (simp at hb) | skip) | omega | exact rfl | exact Nat.le_refl _ | (show _ + 1 ≤ 4294967296; omega) | (dsimp only; omega) | (show (_ : Int) ≤ (_ : Int); omega) | (show _ < List.length _; simp only [List.length_set, List.length_append, List.length_take]; omega) | (show wantB _ _ = true; simp; done) | (show wantB _ _ = true; simp; omega) | (show (_ : Bool) = _; simp_all; done) | (exfalso; omega) | refine aRegion_auto (by decide +kernel) ?_ | fail))
      refine acall_frame0 rfl (widerD _ (loV l k) (hiV l k) m2 n2 _ ?_)
      rw [← hk3] at hK0
      (repeat' (first | exact trivial | exact fun h => h | refine And.intro ?_ ?_ | (intro hb; first | (simp at hb; done) | (simp at hb) | skip) | omega | exact rfl | exact Nat.le_refl _ | (show _ + 1 ≤ 4294967296; omega) | (dsimp only; omega) | (show (_ : Int) ≤ (_ : Int); omega) | (show _ < List.length _; simp only [List.length_set, List.length_append, List.length_take]; omega) | (show wantB _ _ = true; simp; done) | (show wantB _ _ = true; simp; omega) | (show (_ : Bool) = _; simp_all; done) | (exfalso; omega) | refine aRegion_auto (by decide +kernel) ?_ | fail))
      refine ⟨_, _, (REnt.conv [.dat SpT, .keep] _ rfl trivial).trans (REnt.drop ⟨rfl, rfl⟩), ?_⟩
      exact hK0
end Go.Proofs.Ytlmmhmoihmlljaa
/-
  Spans: roots, plainly.
-/
namespace Go.Proofs.Ytlmmhmoihmlljaa
open Go Go.Ab Go.RowKit Ieee
set_option maxRecDepth 100000
theorem rung_fin {m : Nat} {p : Int} (h : p + m.log2 ≤ 1000) : Fp.rung m p < Fp.INF := by
  unfold Fp.rung
  by_cases hm : m = 0
  · rw [if_pos hm]; decide
  rw [if_neg hm]
  obtain ⟨l, hl⟩ : ∃ l, l = max (p + m.log2 - 52) (-1074) := ⟨_, rfl⟩
  rw [← hl]
  have hR : Fp.R (m <<< (p - l).toNat) (l - p).toNat ≤ 2 ^ 53 := by
    refine Fp.R_hi ?_
    rw [Nat.shiftLeft_eq, ← Nat.pow_add]
    have h1 := Fp.lt_log m
    have hp : 0 < 2 ^ (p - l).toNat := Nat.pow_pos (by omega)
    refine Nat.lt_of_lt_of_le (Nat.mul_lt_mul_of_pos_right h1 hp) ?_
    rw [← Nat.pow_add]
    exact Nat.pow_le_pow_right (by omega) (by omega)
  have hA : (l + 1074).toNat ≤ 2022 := by omega
  have h2 := Nat.mul_le_mul_right 4503599627370496 hA
  have h3 : 2022 * 4503599627370496 + 2 ^ 53 < Fp.INF := by decide
  refine Nat.lt_of_le_of_lt (Nat.min_le_left _ _) ?_
  exact Nat.lt_of_le_of_lt (Nat.add_le_add h2 hR) h3
theorem near_fin {s : Bool} {m : Nat} {p : Int} (h : p + m.log2 ≤ 1000) : Fp.fin (double.nearest s m p) := by
  rw [Fp.nearest_eq]
  unfold Fp.fin
  rw [(Fp.word_rg (Fp.rung_le m p)).1]
  exact rung_fin h
theorem read_bd2 {w : Nat} (h : Fp.fin w) : ∃ m p, double.read w = .number (Fp.ng w) m p ∧ m < 2 ^ 53 ∧ p ≤ 971 ∧ (m = 0 → Fp.rg w = 0) := by
  rw [read_rd]
  unfold rd
  have h' : Fp.rg w < Fp.INF := h
  by_cases h1 : Fp.rg w < Fp.BB
  · rw [if_pos h1]
    exact ⟨_, _, rfl, Nat.lt_trans h1 (by decide), by omega, fun h => h⟩
  · rw [if_neg h1, if_pos h']
    have hm := Nat.mod_lt (Fp.rg w) (show 0 < Fp.BB by decide)
    have hd : Fp.rg w / Fp.BB < 2047 := (Nat.div_lt_iff_lt_mul (by decide)).2 h'
    refine ⟨_, _, rfl, ?_, ?_, ?_⟩
    · have : (2 : Nat) ^ 53 = Fp.BB + Fp.BB := by decide
      rw [this]
      exact Nat.add_lt_add_left hm _
    · generalize Fp.rg w / Fp.BB = e at *
      omega
    · intro h0
      have : 0 < Fp.BB := by decide
      omega
theorem root_lt (n : Nat) : ∀ t root, Datum.rootFrom n t root < root + 2 ^ t
  | 0, root => by unfold Datum.rootFrom; omega
  | t + 1, root => by
    unfold Datum.rootFrom
    have h1 := root_lt n t (root + 1 <<< t)
    have h2 := root_lt n t root
    rw [Nat.one_shiftLeft] at h1
    have hp : 2 ^ (t + 1) = 2 ^ t + 2 ^ t := by rw [Nat.pow_succ]; omega
    have h0 : 0 < 2 ^ t := Nat.pow_pos (by omega)
    simp only [Nat.one_shiftLeft]
    split <;> omega
def fsqrt (x : Nat) : Nat := (double.sqrt x).getD 0
theorem log2_lt {m k : Nat} (h : m < 2 ^ k) (hk : 0 < k) : m.log2 < k := by
  by_cases h0 : m = 0
  · subst h0; simpa using hk
  · exact (Nat.log2_lt h0).2 h
theorem fsqrt_nb {x : Nat} (hx : Fp.fin x) (h0 : 0 ≤ Fp.key x) : double.sqrt x = some (fsqrt x) ∧ nb (fsqrt x) ∧ Fp.fin (fsqrt x) := by
  obtain ⟨m, i, e, m1, i1, hz⟩ := read_bd2 hx
  have key : ∃ w, double.sqrt x = some w ∧ nb w ∧ Fp.fin w := by
    unfold Format.sqrt
    rw [e]
    unfold Datum.root
    simp only
    by_cases hm : m = 0
    · rw [if_pos hm, hm]
      refine ⟨_, rfl, near_nb _ _ _, ?_⟩
      show Fp.fin (double.nearest _ 0 i)
      rw [Fp.nearest_eq]
      unfold Fp.fin
      rw [(Fp.word_rg (Fp.rung_le _ _)).1]
      unfold Fp.rung
      rw [if_pos rfl]; decide
    · have hs : Fp.ng x = false := by
        cases c : Fp.ng x
        · rfl
        · exfalso
          have hr : Fp.rg x ≠ 0 := fun h => by
            obtain ⟨m', p', e', _, v⟩ := Fp.read_num hx
            rw [e] at e'
            cases e'
            rw [h, Fp.val_zero Fp.BB1] at v
            have : 0 < 2 ^ (i + 1074).toNat := Nat.pow_pos (by omega)
            rcases Nat.mul_eq_zero.1 v with c | c <;> omega
          unfold Fp.key at h0
          rw [c] at h0
          simp at h0
          omega
      rw [if_neg hm, hs, if_neg (by decide)]
      obtain ⟨k, hk⟩ : ∃ k : Nat, k = (2 * (double.fractionBits + 2) - m.log2) + ((i - ((2 * (double.fractionBits + 2) - m.log2 : Nat) : Int)) % 2).toNat := ⟨_, rfl⟩
      rw [← hk]
      refine ⟨_, rfl, near_nb _ _ _, near_fin ?_⟩
      have hn : (m <<< k).log2 = m.log2 + k := by rw [Nat.shiftLeft_eq]; exact Fp.log2_scale m k hm
      rw [hn]
      have hw := root_lt (m <<< k) ((m.log2 + k) / 2 + 1) 0
      rw [Nat.zero_add] at hw
      generalize Datum.rootFrom (m <<< k) ((m.log2 + k) / 2 + 1) 0 = r at *
      have hM : 2 * r + (r * r != m <<< k).toNat < 2 ^ ((m.log2 + k) / 2 + 2) := by
        have : 2 ^ ((m.log2 + k) / 2 + 2) = 2 * 2 ^ ((m.log2 + k) / 2 + 1) := by rw [Nat.pow_succ 2 ((m.log2 + k) / 2 + 1)]; omega
        rw [this]
        have : (r * r != m <<< k).toNat ≤ 1 := by cases (r * r != m <<< k) <;> decide
        omega
      have hL := log2_lt hM (by omega)
      have hml := log2_lt m1 (by omega)
      generalize (2 * r + (r * r != m <<< k).toNat).log2 = L at *
      omega
  obtain ⟨w, h1, h2, h3⟩ := key
  unfold fsqrt
  rw [h1]
  exact ⟨rfl, h2, h3⟩
theorem not_nan {x : Nat} (h : nb x) : Fl.isNaN x = false := by
  unfold Fl.isNaN
  rw [read_rd]
  unfold rd
  have := h.2
  split
  · rfl
  · split
    · rfl
    · rw [if_pos (by omega)]; rfl
/-- two finite ends, in whatever order -/
theorem wid_fin {lo hi : Nat} (h1 : nb lo) (h2 : nb hi) (f1 : Fp.fin lo) (f2 : Fp.fin hi) : same (widP lo hi) (widD lo hi) := by
  have b1 := Fp.key_fin f1
  have b2 := Fp.key_fin f2
  unfold widP widD
  have u2 := upW_nb h2 (by omega)
  have d1 := dnW_nb h1 (by omega)
  have kn : Fp.key (Op.negFloat .f64 lo) = -Fp.key lo := Fp.key_neg h1.1
  have n1 := upW_nb (nb_neg h1) (by rw [kn]; omega)
  have n2 := nb_neg n1.1
  have kn2 : Fp.key (Op.negFloat .f64 (Fp.upW (Op.negFloat .f64 lo))) = Fp.key lo - 1 := by rw [Fp.key_neg n1.1.1, n1.2, kn]; omega
  have ed : dnP lo = Fp.dnW lo := by unfold dnP; rw [if_neg (by omega)]
  have eu : upP hi = Fp.upW hi := by unfold upP; rw [if_neg (by omega)]
  have g1 : Fl.fin lo = true := by rw [Fp.fin_rg]; exact decide_eq_true f1
  have g2 : Fl.fin hi = true := by rw [Fp.fin_rg]; exact decide_eq_true f2
  rw [ed, eu, g1, g2]
  have es : soundB (Op.negFloat .f64 (Fp.upW (Op.negFloat .f64 lo)), Fp.upW hi) = soundB (Fp.dnW lo, Fp.upW hi) := by
    rw [sound_key n2 u2.1, sound_key d1.1 u2.1, kn2, u2.2, d1.2]
  rw [Bool.true_and, Bool.true_and, es]
  cases soundB (Fp.dnW lo, Fp.upW hi)
  · exact same_zero
  · exact ⟨rfl, ⟨d1.1, n2, d1.2.trans kn2.symm⟩, u2.1, u2.1, rfl⟩
def rootP (a : Nat × Nat) : (Nat × Nat) × Bool :=
  if (!soundB a || FloatKind.f64.format.order a.1 0 == some .lt) = true then ((0, 0), false)
  else ((fMM true .f64 (widP (fsqrt a.1) (fsqrt a.2)).1.1 0, (widP (fsqrt a.1) (fsqrt a.2)).1.2), (widP (fsqrt a.1) (fsqrt a.2)).2)
def rootD (a : Nat × Nat) : (Nat × Nat) × Bool :=
  if (!soundB a || FloatKind.f64.format.order a.1 0 == some .lt) = true then ((0, 0), false)
  else ((if (FloatKind.f64.format.order (widD (fsqrt a.1) (fsqrt a.2)).1.1 0 == some .lt) = true then 0 else (widD (fsqrt a.1) (fsqrt a.2)).1.1, (widD (fsqrt a.1) (fsqrt a.2)).1.2), (widD (fsqrt a.1) (fsqrt a.2)).2)
theorem root_ends {a : Nat × Nat} (A : Snd a) (h : (FloatKind.f64.format.order a.1 0 == some .lt) = false) : 0 ≤ Fp.key a.1 ∧ 0 ≤ Fp.key a.2 := by
  rw [Fp.lt_key A.n1.2 num_0.2, key_zero] at h
  have := of_decide_eq_false h
  have := A.le
  omega
theorem root_same (a : Nat × Nat) (ha : a.1 < 18446744073709551616 ∧ a.2 < 18446744073709551616) : same (rootP a) (rootD a) := by
  unfold rootP rootD
  cases hs : soundB a
  · exact same_zero
  · cases hl : FloatKind.f64.format.order a.1 0 == some .lt
    · have A := snd_of ha.1 ha.2 hs
      obtain ⟨z1, z2⟩ := root_ends A hl
      obtain ⟨_, n1, f1⟩ := fsqrt_nb A.f1 z1
      obtain ⟨_, n2, f2⟩ := fsqrt_nb A.f2 z2
      rw [if_neg (by decide), if_neg (by decide)]
      obtain ⟨e, ⟨a1, a2, a3⟩, b1, b2, b3⟩ := wid_fin n1 n2 f1 f2
      obtain ⟨m1, m2⟩ := fMM_key true a1 num_0
      rw [key_zero] at m2
      simp only [if_true] at m2
      have o := Fp.lt_key a2.2 num_0.2
      rw [key_zero] at o
      refine ⟨e, ⟨m1, ?_, ?_⟩, b1, b2, b3⟩
      · show nb (if (FloatKind.f64.format.order (widD (fsqrt a.1) (fsqrt a.2)).1.1 0 == some .lt) = true then 0 else (widD (fsqrt a.1) (fsqrt a.2)).1.1)
        split
        · exact num_0
        · exact a2
      · show Fp.key (fMM true .f64 (widP (fsqrt a.1) (fsqrt a.2)).1.1 0) = Fp.key (if (FloatKind.f64.format.order (widD (fsqrt a.1) (fsqrt a.2)).1.1 0 == some .lt) = true then 0 else (widD (fsqrt a.1) (fsqrt a.2)).1.1)
        rw [m2, o]
        by_cases c : Fp.key (widD (fsqrt a.1) (fsqrt a.2)).1.1 < 0
        · rw [if_pos (decide_eq_true c), key_zero]; omega
        · rw [if_neg (by rw [decide_eq_false c]; decide)]; omega
    · exact same_zero
end Go.Proofs.Ytlmmhmoihmlljaa
/-
  GrainSpans: the walk.
-/
namespace Go.Proofs.Ytlmmhmoihmlljaa
open Go Go.Ab Go.RowKit
set_option maxRecDepth 100000
theorem sqrtA (G : List (Nat × Value)) (x : Nat) (h : Ieee.double.sqrt x = some (fsqrt x)) (hn : nb (fsqrt x)) (K : AV → List AO → Prop) (hK : K (.fz F64 (fsqrt x)) []) : ACall Try.prog G 41 [.fz F64 x] [] K := by
  refine acall_below ⟨_, Try.func41, rfl, rfl⟩ (fun c H hA hG vs hv => ?_) hK
  obtain ⟨v, r, rfl, h1, h2⟩ := hv
  unfold RelL at h2
  subst h2
  rw [rel_flt.1 h1]
  refine (Sqrt_any x x (Fl.Sim.refl x) _).mono fun e w' ⟨r, n, e1, hs, e2⟩ => ⟨_, e1, by rw [← e2]; exact below_drewN (Below.refl _ _) _, fun c' _ _ => rel_flt.2 ?_⟩
  have e : Fl.sqrt x = fsqrt x := by unfold Fl.sqrt; rw [h]; rfl
  rw [e] at hs
  rcases hs with hs | ⟨_, hs⟩
  · rw [hs]
  · rw [not_nan hn] at hs; cases hs
theorem wid_nb {p q : (Nat × Nat) × Bool} (h : same p q) : nb p.1.1 ∧ nb q.1.1 := ⟨h.2.1.1, h.2.1.2.1⟩
set_option maxHeartbeats 4000000 in
theorem rootedA (G : List (Nat × Value)) (a : Nat × Nat) (hla : a.1 < 18446744073709551616 ∧ a.2 < 18446744073709551616) (K : AV → List AO → Prop) (hK : K (.tup [.fz SpT (rootP a).1, .fz .bool (rootP a).2]) []) :
    ACall Try.prog G 24 [.fz SpT a] [] K := by
  obtain ⟨a1, a2⟩ := a
  unfold rootP at hK
  refine acall_mk (E := envAt G 31 0) (envOk _ _ _) Try.func24 rfl rfl rfl rfl rfl ?_
  (repeat' (first | exact trivial | exact fun h => h | refine And.intro ?_ ?_ | (intro hb; first | (simp at hb; done) | (simp at hb) | skip) | omega | exact rfl | exact Nat.le_refl _ | (show _ + 1 ≤ 4294967296; omega) | (dsimp only; omega) | (show (_ : Int) ≤ (_ : Int); omega) | (show _ < List.length _; simp only [List.length_set, List.length_append, List.length_take]; omega) | (show wantB _ _ = true; simp; done) | (show wantB _ _ = true; simp; omega) | (show (_ : Bool) = _; simp_all; done) | (exfalso; omega) | refine aRegion_auto (by decide +kernel) ?_ | fail))
  refine acall_conv [.dat SpT] _ _ _ rfl trivial (acall_frame0 rfl (soundA _ (a1, a2) _ ?_))
  cases hs : soundB (a1, a2)
  · rw [hs] at hK
    (repeat' (first | exact trivial | exact fun h => h | refine And.intro ?_ ?_ | (intro hb; first | (simp at hb; done) | (simp at hb) | skip) | omega | exact rfl | exact Nat.le_refl _ | (show _ + 1 ≤ 4294967296; omega) | (dsimp only; omega) | (show (_ : Int) ≤ (_ : Int); omega) | (show _ < List.length _; simp only [List.length_set, List.length_append, List.length_take]; omega) | (show wantB _ _ = true; simp; done) | (show wantB _ _ = true; simp; omega) | (show (_ : Bool) = _; simp_all; done) | (exfalso; omega) | refine aRegion_auto (by decide +kernel) ?_ | fail))
    refine ⟨_, _, (REnt.conv [.dat SpT, .keep] _ rfl trivial).trans (REnt.drop ⟨rfl, rfl⟩), ?_⟩
    exact hK
  have A := snd_of (a := (a1, a2)) hla.1 hla.2 hs
  rw [hs] at hK
  (repeat' (first | exact trivial | exact fun h => h | refine And.intro ?_ ?_ | (intro hb; first | (simp at hb; done) | (simp at hb) | skip) | omega | exact rfl | exact Nat.le_refl _ | (show _ + 1 ≤ 4294967296; omega) | (dsimp only; omega) | (show (_ : Int) ≤ (_ : Int); omega) | (show _ < List.length _; simp only [List.length_set, List.length_append, List.length_take]; omega) | (show wantB _ _ = true; simp; done) | (show wantB _ _ = true; simp; omega) | (show (_ : Bool) = _; simp_all; done) | (exfalso; omega) | refine aRegion_auto (by decide +kernel) ?_ | fail))
  · have hl : (FloatKind.f64.format.order a1 0 == some .lt) = true := by rw [hb]; rfl
    rw [hl] at hK
    refine ⟨_, _, (REnt.conv [.dat SpT, .keep] _ rfl trivial).trans (REnt.drop ⟨rfl, rfl⟩), ?_⟩
    exact hK
  have hl : (FloatKind.f64.format.order a1 0 == some .lt) = false := by simpa using hb
  rw [hl] at hK
  obtain ⟨z1, z2⟩ := root_ends A hl
  obtain ⟨s1, n1, f1⟩ := fsqrt_nb A.f1 z1
  obtain ⟨s2, n2, f2⟩ := fsqrt_nb A.f2 z2
  have hw := (wid_nb (wid_fin n1 n2 f1 f2)).1
  have hW := widerA G (fsqrt a1) (fsqrt a2) n1 n2
  rw [if_neg (by decide)] at hK
  simp only at hK
  generalize widP (fsqrt a1) (fsqrt a2) = w at *
  obtain ⟨⟨w1, w2⟩, wb⟩ := w
  generalize hr1 : fsqrt a1 = r1 at *
  generalize hr2 : fsqrt a2 = r2 at *
  have S1 := sqrtA G a1 (by rw [hr1]; exact s1) (by rw [hr1]; exact n1)
  have S2 := sqrtA G a2 (by rw [hr2]; exact s2) (by rw [hr2]; exact n2)
  rw [hr1] at S1
  rw [hr2] at S2
  have ho := ord_some (x := w1) hw num_0
  let bA : AO := .box [.fz F64 a1, .fz F64 a2]
  let bR : AO := .box [.fz F64 (0 : Nat), .fz F64 (0 : Nat)]
  let bS : AO := .box [.fz F64 w1, .fz F64 w2]
  let rm : AO := .room
  refine aRegion_open 1 (by decide +kernel) ?_
  (repeat' (first | exact trivial | exact fun h => h | refine And.intro ?_ ?_ | (intro hb; first | (simp at hb; done) | (simp at hb) | skip) | omega | exact rfl | exact Nat.le_refl _ | (show _ + 1 ≤ 4294967296; omega) | (dsimp only; omega) | (show (_ : Int) ≤ (_ : Int); omega) | (show _ < List.length _; simp only [List.length_set, List.length_append, List.length_take]; omega) | (show wantB _ _ = true; simp; done) | (show wantB _ _ = true; simp; omega) | (show (_ : Bool) = _; simp_all; done) | (exfalso; omega) | refine aRegion_auto (by decide +kernel) ?_ | fail))
  refine eff_is (.fz F64 r1) [bA, bR, rm] ?_
  (repeat' (first | exact trivial | exact fun h => h | refine And.intro ?_ ?_ | (intro hb; first | (simp at hb; done) | (simp at hb) | skip) | omega | exact rfl | exact Nat.le_refl _ | (show _ + 1 ≤ 4294967296; omega) | (dsimp only; omega) | (show (_ : Int) ≤ (_ : Int); omega) | (show _ < List.length _; simp only [List.length_set, List.length_append, List.length_take]; omega) | (show wantB _ _ = true; simp; done) | (show wantB _ _ = true; simp; omega) | (show (_ : Bool) = _; simp_all; done) | (exfalso; omega) | refine aRegion_auto (by decide +kernel) ?_ | fail))
  refine eff_is (.fz F64 r2) [bA, bR, rm] ?_
  (repeat' (first | exact trivial | exact fun h => h | refine And.intro ?_ ?_ | (intro hb; first | (simp at hb; done) | (simp at hb) | skip) | omega | exact rfl | exact Nat.le_refl _ | (show _ + 1 ≤ 4294967296; omega) | (dsimp only; omega) | (show (_ : Int) ≤ (_ : Int); omega) | (show _ < List.length _; simp only [List.length_set, List.length_append, List.length_take]; omega) | (show wantB _ _ = true; simp; done) | (show wantB _ _ = true; simp; omega) | (show (_ : Bool) = _; simp_all; done) | (exfalso; omega) | refine aRegion_auto (by decide +kernel) ?_ | fail))
  refine eff_is (.tup [.fz SpT (w1, w2), .fz .bool wb]) [bA, bR, rm] ?_
  (repeat' (first | exact trivial | exact fun h => h | refine And.intro ?_ ?_ | (intro hb; first | (simp at hb; done) | (simp at hb) | skip) | omega | exact rfl | exact Nat.le_refl _ | (show _ + 1 ≤ 4294967296; omega) | (dsimp only; omega) | (show (_ : Int) ≤ (_ : Int); omega) | (show _ < List.length _; simp only [List.length_set, List.length_append, List.length_take]; omega) | (show wantB _ _ = true; simp; done) | (show wantB _ _ = true; simp; omega) | (show (_ : Bool) = _; simp_all; done) | (exfalso; omega) | refine aRegion_auto (by decide +kernel) ?_ | fail))
  refine eff_is (.ptr 2 0) [bA, bR, bR] ?_
  (repeat' (first | exact trivial | exact fun h => h | refine And.intro ?_ ?_ | (intro hb; first | (simp at hb; done) | (simp at hb) | skip) | omega | exact rfl | exact Nat.le_refl _ | (show _ + 1 ≤ 4294967296; omega) | (dsimp only; omega) | (show (_ : Int) ≤ (_ : Int); omega) | (show _ < List.length _; simp only [List.length_set, List.length_append, List.length_take]; omega) | (show wantB _ _ = true; simp; done) | (show wantB _ _ = true; simp; omega) | (show (_ : Bool) = _; simp_all; done) | (exfalso; omega) | refine aRegion_auto (by decide +kernel) ?_ | fail))
  refine eff_is .unk [bA, bR, bS] ?_
  refine ⟨[(0, [bA, bR, rm]), (4, [bA, bR, rm]), (1024, [bA, bR, bR]), (36, [bA, bR, rm]), (1028, [bA, bR, bR]), (100, [bA, bR, rm]), (1060, [bA, bR, bR]), (1124, [bA, bR, bR]), (3172, [bA, bR, bS])], rfl, rfl, ?_, ?_⟩
  · (repeat' (first | refine And.intro ?_ ?_ | exact trivial | exact rfl | omega))
    all_goals first
      | (refine acall_frame0 rfl (S1 _ ?_); refine view_of [0, 1, 2] rfl ?_ rfl rfl; (repeat' (first | exact trivial | exact rfl | refine And.intro ?_ ?_)); done)
      | (refine acall_frame0 rfl (S2 _ ?_); refine view_of [0, 1, 2] rfl ?_ rfl rfl; (repeat' (first | exact trivial | exact rfl | refine And.intro ?_ ?_)); done)
      | (refine acall_frame0 rfl (hW _ ?_); refine view_of [0, 1, 2] rfl ?_ rfl rfl; (repeat' (first | exact trivial | exact rfl | refine And.intro ?_ ?_)); done)
      | (refine view_of [0, 1, 3] rfl ?_ rfl rfl; (repeat' (first | exact trivial | exact rfl | refine And.intro ?_ ?_)); done)
      | (refine view_of [0, 1, 2] rfl ?_ rfl rfl; (repeat' (first | exact trivial | exact rfl | refine And.intro ?_ ?_)); done)
  (repeat' (first | exact trivial | exact fun h => h | refine And.intro ?_ ?_ | (intro hb; first | (simp at hb; done) | (simp at hb) | skip) | omega | exact rfl | exact Nat.le_refl _ | (show _ + 1 ≤ 4294967296; omega) | (dsimp only; omega) | (show (_ : Int) ≤ (_ : Int); omega) | (show _ < List.length _; simp only [List.length_set, List.length_append, List.length_take]; omega) | (show wantB _ _ = true; simp; done) | (show wantB _ _ = true; simp; omega) | (show (_ : Bool) = _; simp_all; done) | (exfalso; omega) | refine aRegion_auto (by decide +kernel) ?_ | fail))
  all_goals first
    | exact ho
    | (refine ⟨_, _, (REnt.conv [.dat SpT, .keep] _ rfl trivial).trans (REnt.drop ⟨rfl, rfl⟩), ?_⟩; exact hK)
set_option maxHeartbeats 4000000 in
theorem rootedOfA (G : List (Nat × Value)) (a : Nat × Nat) (hla : a.1 < 18446744073709551616 ∧ a.2 < 18446744073709551616) (K : AV → List AO → Prop) (hK : K (.tup [.fz SpT (rootD a).1, .fz .bool (rootD a).2]) []) :
    ACall Try.prog G 25 [.fz SpT a] [] K := by
  obtain ⟨a1, a2⟩ := a
  unfold rootD at hK
  refine acall_mk (E := envAt G 32 0) (envOk _ _ _) Try.func25 rfl rfl rfl rfl rfl ?_
  (repeat' (first | exact trivial | exact fun h => h | refine And.intro ?_ ?_ | (intro hb; first | (simp at hb; done) | (simp at hb) | skip) | omega | exact rfl | exact Nat.le_refl _ | (show _ + 1 ≤ 4294967296; omega) | (dsimp only; omega) | (show (_ : Int) ≤ (_ : Int); omega) | (show _ < List.length _; simp only [List.length_set, List.length_append, List.length_take]; omega) | (show wantB _ _ = true; simp; done) | (show wantB _ _ = true; simp; omega) | (show (_ : Bool) = _; simp_all; done) | (exfalso; omega) | refine aRegion_auto (by decide +kernel) ?_ | fail))
  refine acall_conv [.dat SpT] _ _ _ rfl trivial (acall_frame0 rfl (isSpanA _ (a1, a2) _ ?_))
  cases hs : soundB (a1, a2)
  · rw [hs] at hK
    (repeat' (first | exact trivial | exact fun h => h | refine And.intro ?_ ?_ | (intro hb; first | (simp at hb; done) | (simp at hb) | skip) | omega | exact rfl | exact Nat.le_refl _ | (show _ + 1 ≤ 4294967296; omega) | (dsimp only; omega) | (show (_ : Int) ≤ (_ : Int); omega) | (show _ < List.length _; simp only [List.length_set, List.length_append, List.length_take]; omega) | (show wantB _ _ = true; simp; done) | (show wantB _ _ = true; simp; omega) | (show (_ : Bool) = _; simp_all; done) | (exfalso; omega) | refine aRegion_auto (by decide +kernel) ?_ | fail))
    refine ⟨_, _, (REnt.conv [.dat SpT, .keep] _ rfl trivial).trans (REnt.drop ⟨rfl, rfl⟩), ?_⟩
    exact hK
  have A := snd_of (a := (a1, a2)) hla.1 hla.2 hs
  rw [hs] at hK
  (repeat' (first | exact trivial | exact fun h => h | refine And.intro ?_ ?_ | (intro hb; first | (simp at hb; done) | (simp at hb) | skip) | omega | exact rfl | exact Nat.le_refl _ | (show _ + 1 ≤ 4294967296; omega) | (dsimp only; omega) | (show (_ : Int) ≤ (_ : Int); omega) | (show _ < List.length _; simp only [List.length_set, List.length_append, List.length_take]; omega) | (show wantB _ _ = true; simp; done) | (show wantB _ _ = true; simp; omega) | (show (_ : Bool) = _; simp_all; done) | (exfalso; omega) | refine aRegion_auto (by decide +kernel) ?_ | fail))
  · have hl : (FloatKind.f64.format.order a1 0 == some .lt) = true := by rw [hb]; rfl
    rw [hl] at hK
    refine ⟨_, _, (REnt.conv [.dat SpT, .keep] _ rfl trivial).trans (REnt.drop ⟨rfl, rfl⟩), ?_⟩
    exact hK
  have hl : (FloatKind.f64.format.order a1 0 == some .lt) = false := by simpa using hb
  rw [hl] at hK
  obtain ⟨z1, z2⟩ := root_ends A hl
  obtain ⟨s1, n1, f1⟩ := fsqrt_nb A.f1 z1
  obtain ⟨s2, n2, f2⟩ := fsqrt_nb A.f2 z2
  have hw := (wid_nb (wid_fin n1 n2 f1 f2)).2
  have hW := widerD G (fsqrt a1) (fsqrt a2) n1 n2
  rw [if_neg (by decide)] at hK
  simp only at hK
  generalize widD (fsqrt a1) (fsqrt a2) = w at *
  obtain ⟨⟨w1, w2⟩, wb⟩ := w
  generalize hr1 : fsqrt a1 = r1 at *
  generalize hr2 : fsqrt a2 = r2 at *
  have S1 := sqrtA G a1 (by rw [hr1]; exact s1) (by rw [hr1]; exact n1)
  have S2 := sqrtA G a2 (by rw [hr2]; exact s2) (by rw [hr2]; exact n2)
  rw [hr1] at S1
  rw [hr2] at S2
  have ho := ord_some (x := w1) hw num_0
  let bA : AO := .box [.fz F64 a1, .fz F64 a2]
  let bR : AO := .box [.fz F64 (0 : Nat), .fz F64 (0 : Nat)]
  let bS : AO := .box [.fz F64 w1, .fz F64 w2]
  let rm : AO := .room
  refine aRegion_open 1 (by decide +kernel) ?_
  (repeat' (first | exact trivial | exact fun h => h | refine And.intro ?_ ?_ | (intro hb; first | (simp at hb; done) | (simp at hb) | skip) | omega | exact rfl | exact Nat.le_refl _ | (show _ + 1 ≤ 4294967296; omega) | (dsimp only; omega) | (show (_ : Int) ≤ (_ : Int); omega) | (show _ < List.length _; simp only [List.length_set, List.length_append, List.length_take]; omega) | (show wantB _ _ = true; simp; done) | (show wantB _ _ = true; simp; omega) | (show (_ : Bool) = _; simp_all; done) | (exfalso; omega) | refine aRegion_auto (by decide +kernel) ?_ | fail))
  refine eff_is (.fz F64 r1) [bA, bR, rm] ?_
  (repeat' (first | exact trivial | exact fun h => h | refine And.intro ?_ ?_ | (intro hb; first | (simp at hb; done) | (simp at hb) | skip) | omega | exact rfl | exact Nat.le_refl _ | (show _ + 1 ≤ 4294967296; omega) | (dsimp only; omega) | (show (_ : Int) ≤ (_ : Int); omega) | (show _ < List.length _; simp only [List.length_set, List.length_append, List.length_take]; omega) | (show wantB _ _ = true; simp; done) | (show wantB _ _ = true; simp; omega) | (show (_ : Bool) = _; simp_all; done) | (exfalso; omega) | refine aRegion_auto (by decide +kernel) ?_ | fail))
  refine eff_is (.fz F64 r2) [bA, bR, rm] ?_
  (repeat' (first | exact trivial | exact fun h => h | refine And.intro ?_ ?_ | (intro hb; first | (simp at hb; done) | (simp at hb) | skip) | omega | exact rfl | exact Nat.le_refl _ | (show _ + 1 ≤ 4294967296; omega) | (dsimp only; omega) | (show (_ : Int) ≤ (_ : Int); omega) | (show _ < List.length _; simp only [List.length_set, List.length_append, List.length_take]; omega) | (show wantB _ _ = true; simp; done) | (show wantB _ _ = true; simp; omega) | (show (_ : Bool) = _; simp_all; done) | (exfalso; omega) | refine aRegion_auto (by decide +kernel) ?_ | fail))
  refine eff_is (.tup [.fz SpT (w1, w2), .fz .bool wb]) [bA, bR, rm] ?_
  (repeat' (first | exact trivial | exact fun h => h | refine And.intro ?_ ?_ | (intro hb; first | (simp at hb; done) | (simp at hb) | skip) | omega | exact rfl | exact Nat.le_refl _ | (show _ + 1 ≤ 4294967296; omega) | (dsimp only; omega) | (show (_ : Int) ≤ (_ : Int); omega) | (show _ < List.length _; simp only [List.length_set, List.length_append, List.length_take]; omega) | (show wantB _ _ = true; simp; done) | (show wantB _ _ = true; simp; omega) | (show (_ : Bool) = _; simp_all; done) | (exfalso; omega) | refine aRegion_auto (by decide +kernel) ?_ | fail))
  refine eff_is (.ptr 2 0) [bA, bR, bR] ?_
  (repeat' (first | exact trivial | exact fun h => h | refine And.intro ?_ ?_ | (intro hb; first | (simp at hb; done) | (simp at hb) | skip) | omega | exact rfl | exact Nat.le_refl _ | (show _ + 1 ≤ 4294967296; omega) | (dsimp only; omega) | (show (_ : Int) ≤ (_ : Int); omega) | (show _ < List.length _; simp only [List.length_set, List.length_append, List.length_take]; omega) | (show wantB _ _ = true; simp; done) | (show wantB _ _ = true; simp; omega) | (show (_ : Bool) = _; simp_all; done) | (exfalso; omega) | refine aRegion_auto (by decide +kernel) ?_ | fail))
  refine eff_is .unk [bA, bR, bS] ?_
  refine ⟨[(0, [bA, bR, rm]), (4, [bA, bR, rm]), (1024, [bA, bR, bR]), (36, [bA, bR, rm]), (1028, [bA, bR, bR]), (100, [bA, bR, rm]), (1060, [bA, bR, bR]), (1124, [bA, bR, bR]), (3172, [bA, bR, bS])], rfl, rfl, ?_, ?_⟩
  · (repeat' (first | refine And.intro ?_ ?_ | exact trivial | exact rfl | omega))
    all_goals first
      | (refine acall_frame0 rfl (S1 _ ?_); refine view_of [0, 1, 2] rfl ?_ rfl rfl; (repeat' (first | exact trivial | exact rfl | refine And.intro ?_ ?_)); done)
      | (refine acall_frame0 rfl (S2 _ ?_); refine view_of [0, 1, 2] rfl ?_ rfl rfl; (repeat' (first | exact trivial | exact rfl | refine And.intro ?_ ?_)); done)
      | (refine acall_frame0 rfl (hW _ ?_); refine view_of [0, 1, 2] rfl ?_ rfl rfl; (repeat' (first | exact trivial | exact rfl | refine And.intro ?_ ?_)); done)
      | (refine view_of [0, 1, 3] rfl ?_ rfl rfl; (repeat' (first | exact trivial | exact rfl | refine And.intro ?_ ?_)); done)
      | (refine view_of [0, 1, 2] rfl ?_ rfl rfl; (repeat' (first | exact trivial | exact rfl | refine And.intro ?_ ?_)); done)
  (repeat' (first | exact trivial | exact fun h => h | refine And.intro ?_ ?_ | (intro hb; first | (simp at hb; done) | (simp at hb) | skip) | omega | exact rfl | exact Nat.le_refl _ | (show _ + 1 ≤ 4294967296; omega) | (dsimp only; omega) | (show (_ : Int) ≤ (_ : Int); omega) | (show _ < List.length _; simp only [List.length_set, List.length_append, List.length_take]; omega) | (show wantB _ _ = true; simp; done) | (show wantB _ _ = true; simp; omega) | (show (_ : Bool) = _; simp_all; done) | (exfalso; omega) | refine aRegion_auto (by decide +kernel) ?_ | fail))
  · have hl2 : (FloatKind.f64.format.order w1 0 == some .lt) = true := by rw [hb]; rfl
    rw [if_pos hl2] at hK
    refine ⟨_, _, (REnt.conv [.dat SpT, .keep] _ rfl trivial).trans (REnt.drop ⟨rfl, rfl⟩), ?_⟩
    exact hK
  · have hl2 : ¬ (FloatKind.f64.format.order w1 0 == some .lt) = true := by simpa using hb
    rw [if_neg hl2] at hK
    refine ⟨_, _, (REnt.conv [.dat SpT, .keep] _ rfl trivial).trans (REnt.drop ⟨rfl, rfl⟩), ?_⟩
    exact hK
theorem enclosesA (G : List (Nat × Value)) (K : AV → List AO → Prop) (hK : K (.fz .bool true) []) : ACall Try.prog G 20 [] [] K := by
  refine acall_mk (E := envAt G 30 0) (envOk _ _ _) Try.func20 rfl rfl rfl rfl rfl ?_
  (repeat' (first | exact trivial | exact fun h => h | refine And.intro ?_ ?_ | (intro hb; first | (simp at hb; done) | (simp at hb) | skip) | omega | exact rfl | exact Nat.le_refl _ | (show _ + 1 ≤ 4294967296; omega) | (dsimp only; omega) | (show (_ : Int) ≤ (_ : Int); omega) | (show _ < List.length _; simp only [List.length_set, List.length_append, List.length_take]; omega) | (show wantB _ _ = true; simp; done) | (show wantB _ _ = true; simp; omega) | (show (_ : Bool) = _; simp_all; done) | (exfalso; omega) | refine aRegion_auto (by decide +kernel) ?_ | fail))
  refine acall_conv [.dat SpT, .dat SpT, .keep] _ _ _ rfl trivial (acall_frame0 rfl (joinA _ (4607182418800017408, 4611686018427387904) (4613937818241073152, 4616189618054758400) 43 (by decide) (by decide) _ ?_))
  have e : joinP (4607182418800017408, 4611686018427387904) (4613937818241073152, 4616189618054758400) 43 = ((4616189618054758399, 4618441417868443649), true) := by decide +kernel
  rw [e]
  (repeat' (first | exact trivial | exact fun h => h | refine And.intro ?_ ?_ | (intro hb; first | (simp at hb; done) | (simp at hb) | skip) | omega | exact rfl | exact Nat.le_refl _ | (show _ + 1 ≤ 4294967296; omega) | (dsimp only; omega) | (show (_ : Int) ≤ (_ : Int); omega) | (show _ < List.length _; simp only [List.length_set, List.length_append, List.length_take]; omega) | (show wantB _ _ = true; simp; done) | (show wantB _ _ = true; simp; omega) | (show (_ : Bool) = _; simp_all; done) | (exfalso; omega) | refine aRegion_auto (by decide +kernel) ?_ | fail))
  refine ⟨_, _, REnt.drop ⟨rfl, rfl⟩, ?_⟩
  refine (congrArg (fun q => K (.fz .bool q) []) (?_ : _ = true)).mpr hK
  decide +kernel
set_option maxHeartbeats 4000000 in
/-- what the law answers -/
theorem grainSpans_any (G : List (Nat × Value)) (a b : Nat × Nat) (how : Int) (x : Nat) (hla : a.1 < 18446744073709551616 ∧ a.2 < 18446744073709551616) (hlb : b.1 < 18446744073709551616 ∧ b.2 < 18446744073709551616) (K : AV → List AO → Prop) (hK : K (.fz .bool true) []) :
    ACall Try.prog G 4 [.fz SpT a, .fz SpT b, .fz (.int .u8) how, .fz F64 x] [] K := by
  have hj := join_same a b how hla hlb
  have hr := root_same a hla
  obtain ⟨j1, j2⟩ := same_span hj
  obtain ⟨r1, r2⟩ := same_span hr
  have hJ := joinA G a b how hla hlb
  have hJ2 := joinOfA G a b how hla hlb
  have hR := rootedA G a hla
  have hR2 := rootedOfA G a hla
  generalize joinP a b how = jp at *
  generalize joinD a b how = jd at *
  generalize rootP a = rp at *
  generalize rootD a = rd' at *
  obtain ⟨⟨jp1, jp2⟩, jpb⟩ := jp
  obtain ⟨⟨jd1, jd2⟩, jdb⟩ := jd
  obtain ⟨⟨rp1, rp2⟩, rpb⟩ := rp
  obtain ⟨⟨rd1, rd2⟩, rdb⟩ := rd'
  obtain rfl : jpb = jdb := by simpa using j1
  obtain rfl : rpb = rdb := by simpa using r1
  obtain ⟨a1, a2⟩ := a
  obtain ⟨b1, b2⟩ := b
  refine acall_mk (E := envAt G 91 0) (envOk _ _ _) Try.func4 rfl rfl rfl rfl rfl ?_
  (repeat' (first | exact trivial | exact fun h => h | refine And.intro ?_ ?_ | (intro hb; first | (simp at hb; done) | (simp at hb) | skip) | omega | exact rfl | exact Nat.le_refl _ | (show _ + 1 ≤ 4294967296; omega) | (dsimp only; omega) | (show (_ : Int) ≤ (_ : Int); omega) | (show _ < List.length _; simp only [List.length_set, List.length_append, List.length_take]; omega) | (show wantB _ _ = true; simp; done) | (show wantB _ _ = true; simp; omega) | (show (_ : Bool) = _; simp_all; done) | (exfalso; omega) | refine aRegion_auto (by decide +kernel) ?_ | fail))
  refine acall_frame0 rfl (enclosesA _ _ ?_)
  (repeat' (first | exact trivial | exact fun h => h | refine And.intro ?_ ?_ | (intro hb; first | (simp at hb; done) | (simp at hb) | skip) | omega | exact rfl | exact Nat.le_refl _ | (show _ + 1 ≤ 4294967296; omega) | (dsimp only; omega) | (show (_ : Int) ≤ (_ : Int); omega) | (show _ < List.length _; simp only [List.length_set, List.length_append, List.length_take]; omega) | (show wantB _ _ = true; simp; done) | (show wantB _ _ = true; simp; omega) | (show (_ : Bool) = _; simp_all; done) | (exfalso; omega) | refine aRegion_auto (by decide +kernel) ?_ | fail))
  refine acall_conv [.dat SpT, .dat SpT, .keep] _ _ _ rfl trivial (acall_frame0 rfl (hJ _ ?_))
  (repeat' (first | exact trivial | exact fun h => h | refine And.intro ?_ ?_ | (intro hb; first | (simp at hb; done) | (simp at hb) | skip) | omega | exact rfl | exact Nat.le_refl _ | (show _ + 1 ≤ 4294967296; omega) | (dsimp only; omega) | (show (_ : Int) ≤ (_ : Int); omega) | (show _ < List.length _; simp only [List.length_set, List.length_append, List.length_take]; omega) | (show wantB _ _ = true; simp; done) | (show wantB _ _ = true; simp; omega) | (show (_ : Bool) = _; simp_all; done) | (exfalso; omega) | refine aRegion_auto (by decide +kernel) ?_ | fail))
  refine acall_conv [.dat SpT, .dat SpT, .keep] _ _ _ rfl trivial (acall_frame0 rfl (hJ2 _ ?_))
  (repeat' (first | exact trivial | exact fun h => h | refine And.intro ?_ ?_ | (intro hb; first | (simp at hb; done) | (simp at hb) | skip) | omega | exact rfl | exact Nat.le_refl _ | (show _ + 1 ≤ 4294967296; omega) | (dsimp only; omega) | (show (_ : Int) ≤ (_ : Int); omega) | (show _ < List.length _; simp only [List.length_set, List.length_append, List.length_take]; omega) | (show wantB _ _ = true; simp; done) | (show wantB _ _ = true; simp; omega) | (show (_ : Bool) = _; simp_all; done) | (exfalso; omega) | refine aRegion_auto (by decide +kernel) ?_ | fail))
  refine acall_conv [.dat SpT, .dat SpT] _ _ _ rfl trivial (acall_frame0 rfl (sameSpanA _ (jp1, jp2) (jd1, jd2) _ ?_))
  rw [show (sameB (jp1, jp2).1 (jd1, jd2).1 && sameB (jp1, jp2).2 (jd1, jd2).2) = true from j2]
  (repeat' (first | exact trivial | exact fun h => h | refine And.intro ?_ ?_ | (intro hb; first | (simp at hb; done) | (simp at hb) | skip) | omega | exact rfl | exact Nat.le_refl _ | (show _ + 1 ≤ 4294967296; omega) | (dsimp only; omega) | (show (_ : Int) ≤ (_ : Int); omega) | (show _ < List.length _; simp only [List.length_set, List.length_append, List.length_take]; omega) | (show wantB _ _ = true; simp; done) | (show wantB _ _ = true; simp; omega) | (show (_ : Bool) = _; simp_all; done) | (exfalso; omega) | refine aRegion_auto (by decide +kernel) ?_ | fail))
  refine acall_conv [.dat SpT] _ _ _ rfl trivial (acall_frame0 rfl (hR _ ?_))
  (repeat' (first | exact trivial | exact fun h => h | refine And.intro ?_ ?_ | (intro hb; first | (simp at hb; done) | (simp at hb) | skip) | omega | exact rfl | exact Nat.le_refl _ | (show _ + 1 ≤ 4294967296; omega) | (dsimp only; omega) | (show (_ : Int) ≤ (_ : Int); omega) | (show _ < List.length _; simp only [List.length_set, List.length_append, List.length_take]; omega) | (show wantB _ _ = true; simp; done) | (show wantB _ _ = true; simp; omega) | (show (_ : Bool) = _; simp_all; done) | (exfalso; omega) | refine aRegion_auto (by decide +kernel) ?_ | fail))
  refine acall_conv [.dat SpT] _ _ _ rfl trivial (acall_frame0 rfl (hR2 _ ?_))
  (repeat' (first | exact trivial | exact fun h => h | refine And.intro ?_ ?_ | (intro hb; first | (simp at hb; done) | (simp at hb) | skip) | omega | exact rfl | exact Nat.le_refl _ | (show _ + 1 ≤ 4294967296; omega) | (dsimp only; omega) | (show (_ : Int) ≤ (_ : Int); omega) | (show _ < List.length _; simp only [List.length_set, List.length_append, List.length_take]; omega) | (show wantB _ _ = true; simp; done) | (show wantB _ _ = true; simp; omega) | (show (_ : Bool) = _; simp_all; done) | (exfalso; omega) | refine aRegion_auto (by decide +kernel) ?_ | fail))
  refine acall_conv [.dat SpT, .dat SpT] _ _ _ rfl trivial (acall_frame0 rfl (sameSpanA _ (rp1, rp2) (rd1, rd2) _ ?_))
  rw [show (sameB (rp1, rp2).1 (rd1, rd2).1 && sameB (rp1, rp2).2 (rd1, rd2).2) = true from r2]
  (repeat' (first | exact trivial | exact fun h => h | refine And.intro ?_ ?_ | (intro hb; first | (simp at hb; done) | (simp at hb) | skip) | omega | exact rfl | exact Nat.le_refl _ | (show _ + 1 ≤ 4294967296; omega) | (dsimp only; omega) | (show (_ : Int) ≤ (_ : Int); omega) | (show _ < List.length _; simp only [List.length_set, List.length_append, List.length_take]; omega) | (show wantB _ _ = true; simp; done) | (show wantB _ _ = true; simp; omega) | (show (_ : Bool) = _; simp_all; done) | (exfalso; omega) | refine aRegion_auto (by decide +kernel) ?_ | fail))
  refine acall_conv [.dat SpT] _ _ _ rfl trivial (acall_frame0 rfl (isSpanA _ (a1, a2) _ ?_))
  (repeat' (first | exact trivial | exact fun h => h | refine And.intro ?_ ?_ | (intro hb; first | (simp at hb; done) | (simp at hb) | skip) | omega | exact rfl | exact Nat.le_refl _ | (show _ + 1 ≤ 4294967296; omega) | (dsimp only; omega) | (show (_ : Int) ≤ (_ : Int); omega) | (show _ < List.length _; simp only [List.length_set, List.length_append, List.length_take]; omega) | (show wantB _ _ = true; simp; done) | (show wantB _ _ = true; simp; omega) | (show (_ : Bool) = _; simp_all; done) | (exfalso; omega) | refine aRegion_auto (by decide +kernel) ?_ | fail))
  all_goals first | (exfalso; simp_all; done) | skip
  refine acall_conv [.dat SpT, .keep] _ _ _ rfl trivial (acall_frame0 rfl (hasA _ (a1, a2) x _ ?_))
  (repeat' (first | exact trivial | exact fun h => h | refine And.intro ?_ ?_ | (intro hb; first | (simp at hb; done) | (simp at hb) | skip) | omega | exact rfl | exact Nat.le_refl _ | (show _ + 1 ≤ 4294967296; omega) | (dsimp only; omega) | (show (_ : Int) ≤ (_ : Int); omega) | (show _ < List.length _; simp only [List.length_set, List.length_append, List.length_take]; omega) | (show wantB _ _ = true; simp; done) | (show wantB _ _ = true; simp; omega) | (show (_ : Bool) = _; simp_all; done) | (exfalso; omega) | refine aRegion_auto (by decide +kernel) ?_ | fail))
  refine ⟨_, _, REnt.drop ⟨rfl, rfl⟩, ?_⟩
  refine (congrArg (fun q => K (.fz .bool q) []) (?_ : _ = true)).mpr hK
  have e1 : (jpb == jpb) = true := by cases jpb <;> rfl
  have e2 : (rpb == rpb) = true := by cases rpb <;> rfl
  have e3 : hasB (a1, a2) x = (bif (bif soundB (a1, a2) then leB a1 x else false) then leB x a2 else false) := by
    unfold hasB
    cases soundB (a1, a2) <;> cases leB a1 x <;> rfl
  show (bif bif bif bif jpb == jpb then rpb == rpb else false then true else false then true else false then hasB (a1, a2) x == (bif (bif soundB (a1, a2) then leB a1 x else false) then leB x a2 else false) else false) = true
  rw [e1, e2, ← e3]
  simp
end Go.Proofs.Ytlmmhmoihmlljaa
/-
  Arguments read again behind a call that leaves old memory alone; a slice of points opened.
-/
namespace Go.Proofs.Ytlmmhmoihmlljaa
open Go Go.ChangeShapes Go.WideShapes Go.ChangeAt Go.RowKit
theorem trodAll_below {H : Type} {enc : TypeId × Value → H} {P : Program} (hl : laidOutB P = true) {W W' : World} (hb : Below W.heap.size W W') :
    ∀ (ts : List TypeId) (vs : List Value) (ds : List (DataW H)) (ps : List MemPlace), (∀ t ∈ ts, P.readableRec t = true ∧ t < P.types.size) →
      DataW.TrodAll enc P W 0 (fun _ => true) true ts vs ds ps → (∀ x ∈ ps, x.block < W.heap.size) →
      DataW.TrodAll enc P W' 0 (fun b => decide (b < W.heap.size)) true ts vs ds ps
  | [], [], [], ps, _, h, _ => h
  | [], [], _ :: _, _, _, h, _ => h.elim
  | [], _ :: _, _, _, _, h, _ => h.elim
  | _ :: _, [], _, _, _, h, _ => h.elim
  | _ :: _, _ :: _, [], _, _, h, _ => h.elim
  | t :: ts, v :: vs, d :: ds, ps, hr, h, hlt => by
    obtain ⟨p, q, h1, h2, rfl⟩ := h
    refine ⟨p, q, Below.trod hl (hr t (List.mem_cons_self ..)).1 (hr t (List.mem_cons_self ..)).2 h1 hb (fun x hx => hlt x (List.mem_append.2 (.inl hx))), ?_, rfl⟩
    exact trodAll_below hl hb ts vs ds q (fun t ht => hr t (List.mem_cons_of_mem _ ht)) h2 (fun x hx => hlt x (List.mem_append.2 (.inr hx)))
end Go.Proofs.Ytlmmhmoihmlljaa
/-
  GrainSpans returns true for every input: what two spans give, the roots of one, what lies in one, are the document's, end by end (no condition).
-/
namespace Go.Proofs.Ytlmmhmoihmlljaa.spans
open Go Go.Ab
open Go.ChangeShapes Go.WideShapes Go.ChangeAt Go.RowKit
theorem own : ownKnob Try.prog.godebug = none := by kernel_rfl
theorem wf_lt {x : Nat} (h : (Lit.float .f64 x).wf = true) : x < 2 ^ 64 := by simpa [Lit.wf] using h
theorem laidOut : laidOutB Try.prog = true := by kernel_rfl
set_option maxRecDepth 100000 in
theorem lifted (os : Os) (started : os.Started) (H : Type) (enc : TypeId × Value → H) :
    ReturnsInHanded {} Try.checked os 4 .any (Rows.grainSpansSpec.pre6 enc Try.prog Try.f4 Rows.grainSpansRow.domain false) (Rows.grainSpansSpec.post enc Try.prog Try.f4 false true false false) := by
  refine returnsInHanded_of_change (C := Try.checked) own started (by kernel_rfl) Try.func4
    (ChangeSpec.witness6 (enc := enc) (C := Try.checked) false ⟨#[], #[.agg #[.float .f64 0, .float .f64 0], .agg #[.float .f64 0, .float .f64 0], .int .u8 0, .float .f64 0], []⟩ 8 (by kernel_rfl) (by kernel_rfl) (by kernel_rfl) (by kernel_rfl)) ?_
  intro W base args ds gs before hval0 hW hcnd _
  have hval : ∀ (j : Nat) t v, Try.f4.params[j]? = some t → args[j]? = some v → Value.okWide Try.prog W .any base t v := hval0
  have hW' := hW
  obtain ⟨p, q, hA0, hV, rfl, hfz, hnd⟩ := hW
  have hA : DataW.TrodAll enc Try.prog W 0 (fun _ => true) true Try.f4.params.toList args.toList ds p := hA0
  obtain ⟨rfl, rfl⟩ := trodVars_none hV
  simp only [List.append_nil] at hW'
  have hAll : ∀ W', Below W.heap.size W W' → DataW.TrodAll enc Try.prog W' 0 (fun b => decide (b < W.heap.size)) true Try.f4.params.toList args.toList ds p :=
    fun W' hb => trodAll_below laidOut hb _ _ _ _ (by rw [Try.params4]; exact of_decide_eq_true (by kernel_rfl)) hA (fun x hx => hW'.lt x hx)
  rw [Try.params4] at hA hval
  obtain ⟨v0, vs0, d0, ds0, p0, q0, hargs, rfl, rfl, h0, t0⟩ := trodAll_cons hA
  obtain ⟨v1, vs1, d1, ds1, p1, q1, rfl, rfl, rfl, h1, t1⟩ := trodAll_cons t0
  obtain ⟨v2, vs2, d2, ds2, p2, q2, rfl, rfl, rfl, h2, t2⟩ := trodAll_cons t1
  obtain ⟨v3, vs3, d3, ds3, p3, q3, rfl, rfl, rfl, h3, t3⟩ := trodAll_cons t2
  obtain ⟨rfl, rfl, rfl⟩ := trodAll_nil t3
  obtain rfl : args = #[v0, v1, v2, v3] := by cases args; simp_all
  clear hA0 hval0
  obtain ⟨y0, r0, b0⟩ := open_val (n := 3) (ty := SpT) tabOk (by kernel_rfl) [] (hval 0 _ v0 rfl rfl) h0
  obtain ⟨y1, r1, b1⟩ := open_val (n := 3) (ty := SpT) tabOk (by kernel_rfl) [] (hval 1 _ v1 rfl rfl) h1
  obtain ⟨y2, r2, b2⟩ := open_val (n := 2) (ty := .int .u8) tabOk (by kernel_rfl) [] (hval 2 _ v2 rfl rfl) h2
  obtain ⟨y3, r3, b3⟩ := open_val (n := 2) (ty := F64) tabOk (by kernel_rfl) [] (hval 3 _ v3 rfl rfl) h3
  have fin : Calls Try.prog 4 #[v0, v1, v2, v3] W fun e w' => e = .returned (.bool true) ∧ Below W.heap.size W w' :=
    acall_true (vs := [v0, v1, v2, v3]) (grainSpans_any [] y0 y1 y2 y3 ⟨wf_lt b0.1, wf_lt b0.2⟩ ⟨wf_lt b1.1, wf_lt b1.2⟩ _ rfl) (fun g v h => by cases h) ⟨_, _, rfl, r0, _, _, rfl, r1, _, _, rfl, r2, _, _, rfl, r3, rfl⟩
  refine fin.mono fun e W' ⟨he, hg⟩ => ?_
  subst he
  exact ⟨_, rfl, _, _, _, [], _, [], hW', trodAll_mk1 (shut_bool Try.underlying4 _), hAll W' hg, rfl, hg.frame _, fun h => by cases h⟩
theorem proved : Rows.GrainSpansSaid :=
  OpenClaim.holds_of_wide 4 Try.f4 rfl rfl rfl rfl rfl rfl rfl ⟨rfl, rfl, rfl, rfl, rfl⟩ rfl rfl rfl rfl rfl (by kernel_rfl) Try.func4 (by kernel_rfl)
    (of_decide_eq_true (by kernel_rfl)) (by unfold Func.isWrapper; first | (rw [if_pos (by decide +kernel)]; kernel_rfl) | (rw [if_neg (by decide +kernel)]; exact ⟨rfl, rfl⟩))
    (fun os started H enc _ => lifted os started H enc)
end Go.Proofs.Ytlmmhmoihmlljaa.spans
