/-
  Spans: sound, wider, walked.
-/
import Derived.Test.YtlmmhmoihmlljaaM6
namespace Go.Proofs.Ytlmmhmoihmlljaa
open Go Go.Ab Go.RowKit
set_option maxRecDepth 100000
def leB (x y : Nat) : Bool := FloatKind.f64.format.order x y == some .lt || FloatKind.f64.format.order x y == some .eq
def soundB (s : Nat × Nat) : Bool := Fl.fin s.1 && Fl.fin s.2 && leB s.1 s.2
theorem soundA (G : List (Nat × Value)) (s : Nat × Nat) (K : AV → List AO → Prop) (hK : K (.fz .bool (soundB s)) []) : ACall Try.prog G 43 [.fz SpT s] [] K := by
  obtain ⟨lo, hi⟩ := s
  unfold soundB at hK
  simp only at hK
  refine acall_mk (E := envAt G 18 0) (envOk _ _ _) Try.func43 rfl rfl rfl rfl rfl ?_
  (repeat' (first | exact trivial | exact fun h => h | refine And.intro ?_ ?_ | (intro hb; first | (simp at hb; done) | (simp at hb) | skip) | omega | exact rfl | exact Nat.le_refl _ | (show _ + 1 ≤ 4294967296; omega) | (dsimp only; omega) | (show (_ : Int) ≤ (_ : Int); omega) | (show _ < List.length _; simp only [List.length_set, List.length_append, List.length_take]; omega) | (show wantB _ _ = true; simp; done) | (show wantB _ _ = true; simp; omega) | (show (_ : Bool) = _; simp_all; done) | (exfalso; omega) | refine aRegion_auto (by decide +kernel) ?_ | refine ⟨_, _, REnt.drop ⟨rfl, rfl⟩, ?_⟩ | fail))
  refine acall_frame0 rfl (finA _ lo _ ?_)
  cases h1 : Fl.fin lo
  · rw [h1] at hK
    (repeat' (first | exact trivial | exact fun h => h | refine And.intro ?_ ?_ | (intro hb; first | (simp at hb; done) | (simp at hb) | skip) | omega | exact rfl | exact Nat.le_refl _ | (show _ + 1 ≤ 4294967296; omega) | (dsimp only; omega) | (show (_ : Int) ≤ (_ : Int); omega) | (show _ < List.length _; simp only [List.length_set, List.length_append, List.length_take]; omega) | (show wantB _ _ = true; simp; done) | (show wantB _ _ = true; simp; omega) | (show (_ : Bool) = _; simp_all; done) | (exfalso; omega) | refine aRegion_auto (by decide +kernel) ?_ | refine ⟨_, _, REnt.drop ⟨rfl, rfl⟩, ?_⟩ | fail))
    exact hK
  · rw [h1] at hK
    (repeat' (first | exact trivial | exact fun h => h | refine And.intro ?_ ?_ | (intro hb; first | (simp at hb; done) | (simp at hb) | skip) | omega | exact rfl | exact Nat.le_refl _ | (show _ + 1 ≤ 4294967296; omega) | (dsimp only; omega) | (show (_ : Int) ≤ (_ : Int); omega) | (show _ < List.length _; simp only [List.length_set, List.length_append, List.length_take]; omega) | (show wantB _ _ = true; simp; done) | (show wantB _ _ = true; simp; omega) | (show (_ : Bool) = _; simp_all; done) | (exfalso; omega) | refine aRegion_auto (by decide +kernel) ?_ | refine ⟨_, _, REnt.drop ⟨rfl, rfl⟩, ?_⟩ | fail))
    refine acall_frame0 rfl (finA _ hi _ ?_)
    cases h2 : Fl.fin hi
    · rw [h2] at hK
      (repeat' (first | exact trivial | exact fun h => h | refine And.intro ?_ ?_ | (intro hb; first | (simp at hb; done) | (simp at hb) | skip) | omega | exact rfl | exact Nat.le_refl _ | (show _ + 1 ≤ 4294967296; omega) | (dsimp only; omega) | (show (_ : Int) ≤ (_ : Int); omega) | (show _ < List.length _; simp only [List.length_set, List.length_append, List.length_take]; omega) | (show wantB _ _ = true; simp; done) | (show wantB _ _ = true; simp; omega) | (show (_ : Bool) = _; simp_all; done) | (exfalso; omega) | refine aRegion_auto (by decide +kernel) ?_ | refine ⟨_, _, REnt.drop ⟨rfl, rfl⟩, ?_⟩ | fail))
      exact hK
    · rw [h2] at hK
      (repeat' (first | exact trivial | exact fun h => h | refine And.intro ?_ ?_ | (intro hb; first | (simp at hb; done) | (simp at hb) | skip) | omega | exact rfl | exact Nat.le_refl _ | (show _ + 1 ≤ 4294967296; omega) | (dsimp only; omega) | (show (_ : Int) ≤ (_ : Int); omega) | (show _ < List.length _; simp only [List.length_set, List.length_append, List.length_take]; omega) | (show wantB _ _ = true; simp; done) | (show wantB _ _ = true; simp; omega) | (show (_ : Bool) = _; simp_all; done) | (exfalso; omega) | refine aRegion_auto (by decide +kernel) ?_ | refine ⟨_, _, REnt.drop ⟨rfl, rfl⟩, ?_⟩ | fail))
      exact hK
theorem isSpanA (G : List (Nat × Value)) (s : Nat × Nat) (K : AV → List AO → Prop) (hK : K (.fz .bool (soundB s)) []) : ACall Try.prog G 26 [.fz SpT s] [] K := by
  obtain ⟨lo, hi⟩ := s
  unfold soundB at hK
  simp only at hK
  refine acall_mk (E := envAt G 22 0) (envOk _ _ _) Try.func26 rfl rfl rfl rfl rfl ?_
  (repeat' (first | exact trivial | exact fun h => h | refine And.intro ?_ ?_ | (intro hb; first | (simp at hb; done) | (simp at hb) | skip) | omega | exact rfl | exact Nat.le_refl _ | (show _ + 1 ≤ 4294967296; omega) | (dsimp only; omega) | (show (_ : Int) ≤ (_ : Int); omega) | (show _ < List.length _; simp only [List.length_set, List.length_append, List.length_take]; omega) | (show wantB _ _ = true; simp; done) | (show wantB _ _ = true; simp; omega) | (show (_ : Bool) = _; simp_all; done) | (exfalso; omega) | refine aRegion_auto (by decide +kernel) ?_ | refine ⟨_, _, REnt.drop ⟨rfl, rfl⟩, ?_⟩ | fail))
  refine acall_frame0 rfl (FinA _ lo _ ?_)
  (repeat' (first | exact trivial | exact fun h => h | refine And.intro ?_ ?_ | (intro hb; first | (simp at hb; done) | (simp at hb) | skip) | omega | exact rfl | exact Nat.le_refl _ | (show _ + 1 ≤ 4294967296; omega) | (dsimp only; omega) | (show (_ : Int) ≤ (_ : Int); omega) | (show _ < List.length _; simp only [List.length_set, List.length_append, List.length_take]; omega) | (show wantB _ _ = true; simp; done) | (show wantB _ _ = true; simp; omega) | (show (_ : Bool) = _; simp_all; done) | (exfalso; omega) | refine aRegion_auto (by decide +kernel) ?_ | refine ⟨_, _, REnt.drop ⟨rfl, rfl⟩, ?_⟩ | fail))
  refine acall_frame0 rfl (FinA _ hi _ ?_)
  cases h1 : Fl.fin lo
  · rw [h1] at hK
    (repeat' (first | exact trivial | exact fun h => h | refine And.intro ?_ ?_ | (intro hb; first | (simp at hb; done) | (simp at hb) | skip) | omega | exact rfl | exact Nat.le_refl _ | (show _ + 1 ≤ 4294967296; omega) | (dsimp only; omega) | (show (_ : Int) ≤ (_ : Int); omega) | (show _ < List.length _; simp only [List.length_set, List.length_append, List.length_take]; omega) | (show wantB _ _ = true; simp; done) | (show wantB _ _ = true; simp; omega) | (show (_ : Bool) = _; simp_all; done) | (exfalso; omega) | refine aRegion_auto (by decide +kernel) ?_ | refine ⟨_, _, REnt.drop ⟨rfl, rfl⟩, ?_⟩ | fail))
    exact hK
  · cases h2 : Fl.fin hi
    · rw [h1, h2] at hK
      (repeat' (first | exact trivial | exact fun h => h | refine And.intro ?_ ?_ | (intro hb; first | (simp at hb; done) | (simp at hb) | skip) | omega | exact rfl | exact Nat.le_refl _ | (show _ + 1 ≤ 4294967296; omega) | (dsimp only; omega) | (show (_ : Int) ≤ (_ : Int); omega) | (show _ < List.length _; simp only [List.length_set, List.length_append, List.length_take]; omega) | (show wantB _ _ = true; simp; done) | (show wantB _ _ = true; simp; omega) | (show (_ : Bool) = _; simp_all; done) | (exfalso; omega) | refine aRegion_auto (by decide +kernel) ?_ | refine ⟨_, _, REnt.drop ⟨rfl, rfl⟩, ?_⟩ | fail))
      exact hK
    · rw [h1, h2] at hK
      (repeat' (first | exact trivial | exact fun h => h | refine And.intro ?_ ?_ | (intro hb; first | (simp at hb; done) | (simp at hb) | skip) | omega | exact rfl | exact Nat.le_refl _ | (show _ + 1 ≤ 4294967296; omega) | (dsimp only; omega) | (show (_ : Int) ≤ (_ : Int); omega) | (show _ < List.length _; simp only [List.length_set, List.length_append, List.length_take]; omega) | (show wantB _ _ = true; simp; done) | (show wantB _ _ = true; simp; omega) | (show (_ : Bool) = _; simp_all; done) | (exfalso; omega) | refine aRegion_auto (by decide +kernel) ?_ | refine ⟨_, _, REnt.drop ⟨rfl, rfl⟩, ?_⟩ | fail))
      exact hK
/-- what the program makes of two ends -/
def widP (lo hi : Nat) : (Nat × Nat) × Bool := if soundB (dnP lo, upP hi) = true then ((dnP lo, upP hi), true) else ((0, 0), false)
theorem widerA (G : List (Nat × Value)) (lo hi : Nat) (h1 : nb lo) (h2 : nb hi) (K : AV → List AO → Prop) (hK : K (.tup [.fz SpT (widP lo hi).1, .fz .bool (widP lo hi).2]) []) : ACall Try.prog G 44 [.fz F64 lo, .fz F64 hi] [] K := by
  unfold widP at hK
  refine acall_mk (E := envAt G 19 0) (envOk _ _ _) Try.func44 rfl rfl rfl rfl rfl ?_
  (repeat' (first | exact trivial | exact fun h => h | refine And.intro ?_ ?_ | (intro hb; first | (simp at hb; done) | (simp at hb) | skip) | omega | exact rfl | exact Nat.le_refl _ | (show _ + 1 ≤ 4294967296; omega) | (dsimp only; omega) | (show (_ : Int) ≤ (_ : Int); omega) | (show _ < List.length _; simp only [List.length_set, List.length_append, List.length_take]; omega) | (show wantB _ _ = true; simp; done) | (show wantB _ _ = true; simp; omega) | (show (_ : Bool) = _; simp_all; done) | (exfalso; omega) | refine aRegion_auto (by decide +kernel) ?_ | refine ⟨_, _, REnt.drop ⟨rfl, rfl⟩, ?_⟩ | fail))
  refine acall_frame0 rfl (InfA_down _ _ ?_)
  (repeat' (first | exact trivial | exact fun h => h | refine And.intro ?_ ?_ | (intro hb; first | (simp at hb; done) | (simp at hb) | skip) | omega | exact rfl | exact Nat.le_refl _ | (show _ + 1 ≤ 4294967296; omega) | (dsimp only; omega) | (show (_ : Int) ≤ (_ : Int); omega) | (show _ < List.length _; simp only [List.length_set, List.length_append, List.length_take]; omega) | (show wantB _ _ = true; simp; done) | (show wantB _ _ = true; simp; omega) | (show (_ : Bool) = _; simp_all; done) | (exfalso; omega) | refine aRegion_auto (by decide +kernel) ?_ | refine ⟨_, _, REnt.drop ⟨rfl, rfl⟩, ?_⟩ | fail))
  refine acall_frame0 rfl (dnA _ lo h1 _ ?_)
  (repeat' (first | exact trivial | exact fun h => h | refine And.intro ?_ ?_ | (intro hb; first | (simp at hb; done) | (simp at hb) | skip) | omega | exact rfl | exact Nat.le_refl _ | (show _ + 1 ≤ 4294967296; omega) | (dsimp only; omega) | (show (_ : Int) ≤ (_ : Int); omega) | (show _ < List.length _; simp only [List.length_set, List.length_append, List.length_take]; omega) | (show wantB _ _ = true; simp; done) | (show wantB _ _ = true; simp; omega) | (show (_ : Bool) = _; simp_all; done) | (exfalso; omega) | refine aRegion_auto (by decide +kernel) ?_ | refine ⟨_, _, REnt.drop ⟨rfl, rfl⟩, ?_⟩ | fail))
  refine acall_frame0 rfl (InfA_up _ _ ?_)
  (repeat' (first | exact trivial | exact fun h => h | refine And.intro ?_ ?_ | (intro hb; first | (simp at hb; done) | (simp at hb) | skip) | omega | exact rfl | exact Nat.le_refl _ | (show _ + 1 ≤ 4294967296; omega) | (dsimp only; omega) | (show (_ : Int) ≤ (_ : Int); omega) | (show _ < List.length _; simp only [List.length_set, List.length_append, List.length_take]; omega) | (show wantB _ _ = true; simp; done) | (show wantB _ _ = true; simp; omega) | (show (_ : Bool) = _; simp_all; done) | (exfalso; omega) | refine aRegion_auto (by decide +kernel) ?_ | refine ⟨_, _, REnt.drop ⟨rfl, rfl⟩, ?_⟩ | fail))
  refine acall_frame0 rfl (upA _ hi h2 _ ?_)
  generalize dnP lo = x at *
  generalize upP hi = y at *
  (repeat' (first | exact trivial | exact fun h => h | refine And.intro ?_ ?_ | (intro hb; first | (simp at hb; done) | (simp at hb) | skip) | omega | exact rfl | exact Nat.le_refl _ | (show _ + 1 ≤ 4294967296; omega) | (dsimp only; omega) | (show (_ : Int) ≤ (_ : Int); omega) | (show _ < List.length _; simp only [List.length_set, List.length_append, List.length_take]; omega) | (show wantB _ _ = true; simp; done) | (show wantB _ _ = true; simp; omega) | (show (_ : Bool) = _; simp_all; done) | (exfalso; omega) | refine aRegion_auto (by decide +kernel) ?_ | refine ⟨_, _, REnt.drop ⟨rfl, rfl⟩, ?_⟩ | fail))
  refine acall_conv [.dat SpT] _ _ _ rfl trivial (acall_frame0 rfl (soundA _ (x, y) _ ?_))
  cases hs : soundB (x, y)
  · rw [if_neg (by rw [hs]; decide)] at hK
    (repeat' (first | exact trivial | exact fun h => h | refine And.intro ?_ ?_ | (intro hb; first | (simp at hb; done) | (simp at hb) | skip) | omega | exact rfl | exact Nat.le_refl _ | (show _ + 1 ≤ 4294967296; omega) | (dsimp only; omega) | (show (_ : Int) ≤ (_ : Int); omega) | (show _ < List.length _; simp only [List.length_set, List.length_append, List.length_take]; omega) | (show wantB _ _ = true; simp; done) | (show wantB _ _ = true; simp; omega) | (show (_ : Bool) = _; simp_all; done) | (exfalso; omega) | refine aRegion_auto (by decide +kernel) ?_ | fail))
    refine ⟨_, _, (REnt.conv [.dat SpT, .keep] _ rfl trivial).trans (REnt.drop ⟨rfl, rfl⟩), ?_⟩
    exact hK
  · rw [if_pos hs] at hK
    (repeat' (first | exact trivial | exact fun h => h | refine And.intro ?_ ?_ | (intro hb; first | (simp at hb; done) | (simp at hb) | skip) | omega | exact rfl | exact Nat.le_refl _ | (show _ + 1 ≤ 4294967296; omega) | (dsimp only; omega) | (show (_ : Int) ≤ (_ : Int); omega) | (show _ < List.length _; simp only [List.length_set, List.length_append, List.length_take]; omega) | (show wantB _ _ = true; simp; done) | (show wantB _ _ = true; simp; omega) | (show (_ : Bool) = _; simp_all; done) | (exfalso; omega) | refine aRegion_auto (by decide +kernel) ?_ | fail))
    refine ⟨_, _, (REnt.conv [.dat SpT, .keep] _ rfl trivial).trans (REnt.drop ⟨rfl, rfl⟩), ?_⟩
    exact hK
/-- what the document makes of them -/
def widD (lo hi : Nat) : (Nat × Nat) × Bool := if (Fl.fin lo && Fl.fin hi && soundB (Op.negFloat .f64 (Fp.upW (Op.negFloat .f64 lo)), Fp.upW hi)) = true then ((Op.negFloat .f64 (Fp.upW (Op.negFloat .f64 lo)), Fp.upW hi), true) else ((0, 0), false)
theorem nb_neg {x : Nat} (h : nb x) : nb (Op.negFloat .f64 x) := by
  obtain ⟨h1, _, h3⟩ := Fp.neg_parts h.1
  exact ⟨h3, by rw [h1]; exact h.2⟩
theorem widerD (G : List (Nat × Value)) (lo hi : Nat) (h1 : nb lo) (h2 : nb hi) (K : AV → List AO → Prop) (hK : K (.tup [.fz SpT (widD lo hi).1, .fz .bool (widD lo hi).2]) []) : ACall Try.prog G 49 [.fz F64 lo, .fz F64 hi] [] K := by
  unfold widD at hK
  refine acall_mk (E := envAt G 34 0) (envOk _ _ _) Try.func49 rfl rfl rfl rfl rfl ?_
  (repeat' (first | exact trivial | exact fun h => h | refine And.intro ?_ ?_ | (intro hb; first | (simp at hb; done) | (simp at hb) | skip) | omega | exact rfl | exact Nat.le_refl _ | (show _ + 1 ≤ 4294967296; omega) | (dsimp only; omega) | (show (_ : Int) ≤ (_ : Int); omega) | (show _ < List.length _; simp only [List.length_set, List.length_append, List.length_take]; omega) | (show wantB _ _ = true; simp; done) | (show wantB _ _ = true; simp; omega) | (show (_ : Bool) = _; simp_all; done) | (exfalso; omega) | refine aRegion_auto (by decide +kernel) ?_ | refine ⟨_, _, REnt.drop ⟨rfl, rfl⟩, ?_⟩ | fail))
  refine acall_frame0 rfl (FinA _ lo _ ?_)
  (repeat' (first | exact trivial | exact fun h => h | refine And.intro ?_ ?_ | (intro hb; first | (simp at hb; done) | (simp at hb) | skip) | omega | exact rfl | exact Nat.le_refl _ | (show _ + 1 ≤ 4294967296; omega) | (dsimp only; omega) | (show (_ : Int) ≤ (_ : Int); omega) | (show _ < List.length _; simp only [List.length_set, List.length_append, List.length_take]; omega) | (show wantB _ _ = true; simp; done) | (show wantB _ _ = true; simp; omega) | (show (_ : Bool) = _; simp_all; done) | (exfalso; omega) | refine aRegion_auto (by decide +kernel) ?_ | refine ⟨_, _, REnt.drop ⟨rfl, rfl⟩, ?_⟩ | fail))
  refine acall_frame0 rfl (FinA _ hi _ ?_)
  cases f1 : Fl.fin lo
  · rw [f1] at hK
    (repeat' (first | exact trivial | exact fun h => h | refine And.intro ?_ ?_ | (intro hb; first | (simp at hb; done) | (simp at hb) | skip) | omega | exact rfl | exact Nat.le_refl _ | (show _ + 1 ≤ 4294967296; omega) | (dsimp only; omega) | (show (_ : Int) ≤ (_ : Int); omega) | (show _ < List.length _; simp only [List.length_set, List.length_append, List.length_take]; omega) | (show wantB _ _ = true; simp; done) | (show wantB _ _ = true; simp; omega) | (show (_ : Bool) = _; simp_all; done) | (exfalso; omega) | refine aRegion_auto (by decide +kernel) ?_ | fail))
    refine ⟨_, _, (REnt.conv [.dat SpT, .keep] _ rfl trivial).trans (REnt.drop ⟨rfl, rfl⟩), ?_⟩
    exact hK
  · cases f2 : Fl.fin hi
    · rw [f1, f2] at hK
      (repeat' (first | exact trivial | exact fun h => h | refine And.intro ?_ ?_ | (intro hb; first | (simp at hb; done) | (simp at hb) | skip) | omega | exact rfl | exact Nat.le_refl _ | (show _ + 1 ≤ 4294967296; omega) | (dsimp only; omega) | (show (_ : Int) ≤ (_ : Int); omega) | (show _ < List.length _; simp only [List.length_set, List.length_append, List.length_take]; omega) | (show wantB _ _ = true; simp; done) | (show wantB _ _ = true; simp; omega) | (show (_ : Bool) = _; simp_all; done) | (exfalso; omega) | refine aRegion_auto (by decide +kernel) ?_ | fail))
      refine ⟨_, _, (REnt.conv [.dat SpT, .keep] _ rfl trivial).trans (REnt.drop ⟨rfl, rfl⟩), ?_⟩
      exact hK
    · rw [f1, f2] at hK
      (repeat' (first | exact trivial | exact fun h => h | refine And.intro ?_ ?_ | (intro hb; first | (simp at hb; done) | (simp at hb) | skip) | omega | exact rfl | exact Nat.le_refl _ | (show _ + 1 ≤ 4294967296; omega) | (dsimp only; omega) | (show (_ : Int) ≤ (_ : Int); omega) | (show _ < List.length _; simp only [List.length_set, List.length_append, List.length_take]; omega) | (show wantB _ _ = true; simp; done) | (show wantB _ _ = true; simp; omega) | (show (_ : Bool) = _; simp_all; done) | (exfalso; omega) | refine aRegion_auto (by decide +kernel) ?_ | fail))
      refine acall_frame0 rfl (nextA _ (Op.negFloat .f64 lo) (nb_neg h1) _ ?_)
      (repeat' (first | exact trivial | exact fun h => h | refine And.intro ?_ ?_ | (intro hb; first | (simp at hb; done) | (simp at hb) | skip) | omega | exact rfl | exact Nat.le_refl _ | (show _ + 1 ≤ 4294967296; omega) | (dsimp only; omega) | (show (_ : Int) ≤ (_ : Int); omega) | (show _ < List.length _; simp only [List.length_set, List.length_append, List.length_take]; omega) | (show wantB _ _ = true; simp; done) | (show wantB _ _ = true; simp; omega) | (show (_ : Bool) = _; simp_all; done) | (exfalso; omega) | refine aRegion_auto (by decide +kernel) ?_ | fail))
      refine acall_frame0 rfl (nextA _ hi h2 _ ?_)
      generalize Op.negFloat .f64 (Fp.upW (Op.negFloat .f64 lo)) = x at *
      generalize Fp.upW hi = y at *
      (repeat' (first | exact trivial | exact fun h => h | refine And.intro ?_ ?_ | (intro hb; first | (simp at hb; done) | (simp at hb) | skip) | omega | exact rfl | exact Nat.le_refl _ | (show _ + 1 ≤ 4294967296; omega) | (dsimp only; omega) | (show (_ : Int) ≤ (_ : Int); omega) | (show _ < List.length _; simp only [List.length_set, List.length_append, List.length_take]; omega) | (show wantB _ _ = true; simp; done) | (show wantB _ _ = true; simp; omega) | (show (_ : Bool) = _; simp_all; done) | (exfalso; omega) | refine aRegion_auto (by decide +kernel) ?_ | fail))
      refine acall_conv [.dat SpT] _ _ _ rfl trivial (acall_frame0 rfl (isSpanA _ (x, y) _ ?_))
      cases hs : soundB (x, y)
      · rw [hs] at hK
        (repeat' (first | exact trivial | exact fun h => h | refine And.intro ?_ ?_ | (intro hb; first | (simp at hb; done) | (simp at hb) | skip) | omega | exact rfl | exact Nat.le_refl _ | (show _ + 1 ≤ 4294967296; omega) | (dsimp only; omega) | (show (_ : Int) ≤ (_ : Int); omega) | (show _ < List.length _; simp only [List.length_set, List.length_append, List.length_take]; omega) | (show wantB _ _ = true; simp; done) | (show wantB _ _ = true; simp; omega) | (show (_ : Bool) = _; simp_all; done) | (exfalso; omega) | refine aRegion_auto (by decide +kernel) ?_ | fail))
        refine ⟨_, _, (REnt.conv [.dat SpT, .keep] _ rfl trivial).trans (REnt.drop ⟨rfl, rfl⟩), ?_⟩
        exact hK
      · rw [hs] at hK
        (repeat' (first | exact trivial | exact fun h => h | refine And.intro ?_ ?_ | (intro hb; first | (simp at hb; done) | (simp at hb) | skip) | omega | exact rfl | exact Nat.le_refl _ | (show _ + 1 ≤ 4294967296; omega) | (dsimp only; omega) | (show (_ : Int) ≤ (_ : Int); omega) | (show _ < List.length _; simp only [List.length_set, List.length_append, List.length_take]; omega) | (show wantB _ _ = true; simp; done) | (show wantB _ _ = true; simp; omega) | (show (_ : Bool) = _; simp_all; done) | (exfalso; omega) | refine aRegion_auto (by decide +kernel) ?_ | fail))
        refine ⟨_, _, (REnt.conv [.dat SpT, .keep] _ rfl trivial).trans (REnt.drop ⟨rfl, rfl⟩), ?_⟩
        exact hK
/-- the same number, or no numbers both -/
def sameB (x y : Nat) : Bool := if (FloatKind.f64.format.order x x != some .eq) = true then FloatKind.f64.format.order y y != some .eq else FloatKind.f64.format.order x y == some .eq
theorem sameBitsA (G : List (Nat × Value)) (x y : Nat) (K : AV → List AO → Prop) (hK : K (.fz .bool (sameB x y)) []) : ACall Try.prog G 10 [.fz F64 x, .fz F64 y] [] K := by
  unfold sameB at hK
  refine acall_mk (E := envAt G 14 0) (envOk _ _ _) Try.func10 rfl rfl rfl rfl rfl ?_
  (repeat' (first | exact trivial | exact fun h => h | refine And.intro ?_ ?_ | (intro hb; first | (simp at hb; done) | (simp at hb) | skip) | omega | exact rfl | exact Nat.le_refl _ | (show _ + 1 ≤ 4294967296; omega) | (dsimp only; omega) | (show (_ : Int) ≤ (_ : Int); omega) | (show _ < List.length _; simp only [List.length_set, List.length_append, List.length_take]; omega) | (show wantB _ _ = true; simp; done) | (show wantB _ _ = true; simp; omega) | (show (_ : Bool) = _; simp_all; done) | (exfalso; omega) | refine aRegion_auto (by decide +kernel) ?_ | refine ⟨_, _, REnt.drop ⟨rfl, rfl⟩, ?_⟩ | fail))
  · rw [if_pos (by simpa using hb)] at hK
    exact hK
  · rw [if_neg (by simp [hb])] at hK
    exact hK
theorem sameSpanA (G : List (Nat × Value)) (s t : Nat × Nat) (K : AV → List AO → Prop) (hK : K (.fz .bool (sameB s.1 t.1 && sameB s.2 t.2)) []) : ACall Try.prog G 23 [.fz SpT s, .fz SpT t] [] K := by
  obtain ⟨s1, s2⟩ := s
  obtain ⟨t1, t2⟩ := t
  refine acall_mk (E := envAt G 21 0) (envOk _ _ _) Try.func23 rfl rfl rfl rfl rfl ?_
  (repeat' (first | exact trivial | exact fun h => h | refine And.intro ?_ ?_ | (intro hb; first | (simp at hb; done) | (simp at hb) | skip) | omega | exact rfl | exact Nat.le_refl _ | (show _ + 1 ≤ 4294967296; omega) | (dsimp only; omega) | (show (_ : Int) ≤ (_ : Int); omega) | (show _ < List.length _; simp only [List.length_set, List.length_append, List.length_take]; omega) | (show wantB _ _ = true; simp; done) | (show wantB _ _ = true; simp; omega) | (show (_ : Bool) = _; simp_all; done) | (exfalso; omega) | refine aRegion_auto (by decide +kernel) ?_ | refine ⟨_, _, REnt.drop ⟨rfl, rfl⟩, ?_⟩ | fail))
  refine acall_frame0 rfl (sameBitsA _ s1 t1 _ ?_)
  (repeat' (first | exact trivial | exact fun h => h | refine And.intro ?_ ?_ | (intro hb; first | (simp at hb; done) | (simp at hb) | skip) | omega | exact rfl | exact Nat.le_refl _ | (show _ + 1 ≤ 4294967296; omega) | (dsimp only; omega) | (show (_ : Int) ≤ (_ : Int); omega) | (show _ < List.length _; simp only [List.length_set, List.length_append, List.length_take]; omega) | (show wantB _ _ = true; simp; done) | (show wantB _ _ = true; simp; omega) | (show (_ : Bool) = _; simp_all; done) | (exfalso; omega) | refine aRegion_auto (by decide +kernel) ?_ | refine ⟨_, _, REnt.drop ⟨rfl, rfl⟩, ?_⟩ | fail))
  refine acall_frame0 rfl (sameBitsA _ s2 t2 _ ?_)
  (repeat' (first | exact trivial | exact fun h => h | refine And.intro ?_ ?_ | (intro hb; first | (simp at hb; done) | (simp at hb) | skip) | omega | exact rfl | exact Nat.le_refl _ | (show _ + 1 ≤ 4294967296; omega) | (dsimp only; omega) | (show (_ : Int) ≤ (_ : Int); omega) | (show _ < List.length _; simp only [List.length_set, List.length_append, List.length_take]; omega) | (show wantB _ _ = true; simp; done) | (show wantB _ _ = true; simp; omega) | (show (_ : Bool) = _; simp_all; done) | (exfalso; omega) | refine aRegion_auto (by decide +kernel) ?_ | refine ⟨_, _, REnt.drop ⟨rfl, rfl⟩, ?_⟩ | fail))
  refine (congrArg (fun q => K (.fz .bool q) []) (?_ : (bif sameB s1 t1 then sameB s2 t2 else false) = (sameB s1 t1 && sameB s2 t2))).mpr hK
  cases sameB s1 t1 <;> rfl
def hasB (s : Nat × Nat) (x : Nat) : Bool := soundB s && leB s.1 x && leB x s.2
theorem hasA (G : List (Nat × Value)) (s : Nat × Nat) (x : Nat) (K : AV → List AO → Prop) (hK : K (.fz .bool (hasB s x)) []) : ACall Try.prog G 27 [.fz SpT s, .fz F64 x] [] K := by
  obtain ⟨s1, s2⟩ := s
  unfold hasB at hK
  refine acall_mk (E := envAt G 19 0) (envOk _ _ _) Try.func27 rfl rfl rfl rfl rfl ?_
  (repeat' (first | exact trivial | exact fun h => h | refine And.intro ?_ ?_ | (intro hb; first | (simp at hb; done) | (simp at hb) | skip) | omega | exact rfl | exact Nat.le_refl _ | (show _ + 1 ≤ 4294967296; omega) | (dsimp only; omega) | (show (_ : Int) ≤ (_ : Int); omega) | (show _ < List.length _; simp only [List.length_set, List.length_append, List.length_take]; omega) | (show wantB _ _ = true; simp; done) | (show wantB _ _ = true; simp; omega) | (show (_ : Bool) = _; simp_all; done) | (exfalso; omega) | refine aRegion_auto (by decide +kernel) ?_ | refine ⟨_, _, REnt.drop ⟨rfl, rfl⟩, ?_⟩ | fail))
  refine acall_conv [.dat SpT] _ _ _ rfl trivial (acall_frame0 rfl (soundA _ (s1, s2) _ ?_))
  cases hs : soundB (s1, s2)
  · rw [hs] at hK
    (repeat' (first | exact trivial | exact fun h => h | refine And.intro ?_ ?_ | (intro hb; first | (simp at hb; done) | (simp at hb) | skip) | omega | exact rfl | exact Nat.le_refl _ | (show _ + 1 ≤ 4294967296; omega) | (dsimp only; omega) | (show (_ : Int) ≤ (_ : Int); omega) | (show _ < List.length _; simp only [List.length_set, List.length_append, List.length_take]; omega) | (show wantB _ _ = true; simp; done) | (show wantB _ _ = true; simp; omega) | (show (_ : Bool) = _; simp_all; done) | (exfalso; omega) | refine aRegion_auto (by decide +kernel) ?_ | refine ⟨_, _, REnt.drop ⟨rfl, rfl⟩, ?_⟩ | fail))
    exact hK
  · rw [hs] at hK
    (repeat' (first | exact trivial | exact fun h => h | refine And.intro ?_ ?_ | (intro hb; first | (simp at hb; done) | (simp at hb) | skip) | omega | exact rfl | exact Nat.le_refl _ | (show _ + 1 ≤ 4294967296; omega) | (dsimp only; omega) | (show (_ : Int) ≤ (_ : Int); omega) | (show _ < List.length _; simp only [List.length_set, List.length_append, List.length_take]; omega) | (show wantB _ _ = true; simp; done) | (show wantB _ _ = true; simp; omega) | (show (_ : Bool) = _; simp_all; done) | (exfalso; omega) | refine aRegion_auto (by decide +kernel) ?_ | refine ⟨_, _, REnt.drop ⟨rfl, rfl⟩, ?_⟩ | fail))
    refine (congrArg (fun q => K (.fz .bool q) []) (?_ : _ = (true && leB s1 x && leB x s2))).mpr hK
    show (bif (bif true then leB s1 x else false) then leB x s2 else false) = _
    cases leB s1 x <;> rfl
end Go.Proofs.Ytlmmhmoihmlljaa
/-
  Spans, plainly: what both make of the same numbers.
-/
namespace Go.Proofs.Ytlmmhmoihmlljaa
open Go Go.Ab Go.RowKit Ieee
set_option maxRecDepth 100000
theorem word_lt {s : Bool} {r : Nat} (h : r ≤ Fp.INF) : double.word s r < 18446744073709551616 := by
  unfold Format.word
  rw [Fp.sg_eq]
  have hI : (Fp.INF : Nat) = 9218868437227405312 := rfl
  have hS : (Fp.SG : Nat) = 9223372036854775808 := rfl
  cases s <;> simp <;> omega
theorem near_nb (s : Bool) (m : Nat) (p : Int) : nb (double.nearest s m p) := by
  rw [Fp.nearest_eq]
  have h := Fp.rung_le m p
  exact ⟨word_lt h, by rw [(Fp.word_rg h).1]; exact h⟩
theorem fin_num {x : Nat} (h : Fp.fin x) : ∃ s m p, double.read x = .number s m p ∧ (m = 0 → Fp.key x = 0) := by
  obtain ⟨m, p, e, _, v⟩ := Fp.read_num h
  refine ⟨_, m, p, e, fun h0 => ?_⟩
  rw [h0, Nat.zero_mul] at v
  have : Fp.rg x = 0 := by
    rcases Nat.eq_zero_or_pos (Fp.rg x) with c | c
    · exact c
    · have := Fp.val_lt Fp.BB1 c
      omega
  unfold Fp.key; rw [this]; split <;> rfl
theorem add_nb {x y : Nat} (hx : Fp.fin x) (hy : Fp.fin y) : ∃ w, double.add x y = some w ∧ nb w ∧ Fp.key w = Fp.KK (Fp.sv x + Fp.sv y) := by
  obtain ⟨w, h1, h2, h3⟩ := Fp.sum_key hx hy
  refine ⟨w, h1, ?_, h2⟩
  obtain ⟨s, m, p, e, _⟩ := fin_num hx
  obtain ⟨t, n, q, e', _⟩ := fin_num hy
  unfold Format.add at h1
  rw [e, e'] at h1
  unfold Datum.sum at h1
  simp only [Option.map_some, Option.some.injEq] at h1
  rw [← h1]
  exact near_nb _ _ _
theorem mul_nb {x y : Nat} (hx : Fp.fin x) (hy : Fp.fin y) : ∃ w, double.mul x y = some w ∧ nb w := by
  obtain ⟨s, m, p, e, _⟩ := fin_num hx
  obtain ⟨t, n, q, e', _⟩ := fin_num hy
  unfold Format.mul
  rw [e, e']
  exact ⟨_, rfl, near_nb _ _ _⟩
theorem div_nb {x y : Nat} (hx : Fp.fin x) (hy : Fp.fin y) (h0 : Fp.key y ≠ 0) : ∃ w, double.div x y = some w ∧ nb w := by
  obtain ⟨s, m, p, e, _⟩ := fin_num hx
  obtain ⟨t, n, q, e', h⟩ := fin_num hy
  unfold Format.div
  rw [e, e']
  unfold Datum.quotient
  simp only
  rw [if_neg (fun c => h0 (h c))]
  exact ⟨_, rfl, near_nb _ _ _⟩
def rd (s : Bool) (r : Nat) : Datum := if r < Fp.BB then Datum.number s r (-1074) else if r < Fp.INF then Datum.number s (Fp.BB + r % Fp.BB) (-1074 + ((r / Fp.BB - 1 : Nat) : Int)) else if r = Fp.INF then Datum.infinity s else Datum.nan s (r - Fp.INF)
theorem read_rd (w : Nat) : double.read w = rd (Fp.ng w) (Fp.rg w) := by
  unfold Format.read
  simp only [Fp.sg_eq, Fp.lp_eq, Fp.bn_eq, Fp.inf_eq]
  rfl
theorem rd_opp (s : Bool) (r : Nat) : (rd s r).opposite = rd (!s) r := by
  unfold rd
  split
  · rfl
  · split
    · rfl
    · split <;> rfl
theorem sub_add {x y : Nat} (hy : y < 18446744073709551616) : double.sub x y = double.add x (Op.negFloat .f64 y) := by
  obtain ⟨h1, h2, _⟩ := Fp.neg_parts hy
  unfold Format.sub Format.add
  rw [read_rd (Op.negFloat .f64 y), h1, h2, read_rd y, rd_opp]
theorem sv_neg {y : Nat} (hy : y < 18446744073709551616) : Fp.sv (Op.negFloat .f64 y) = -Fp.sv y := by
  obtain ⟨h1, h2, _⟩ := Fp.neg_parts hy
  unfold Fp.sv
  rw [h1, h2]
  cases Fp.ng y <;> simp
theorem sub_nb {x y : Nat} (hx : Fp.fin x) (hy : Fp.fin y) (h : y < 18446744073709551616) : ∃ w, double.sub x y = some w ∧ nb w ∧ Fp.key w = Fp.KK (Fp.sv x - Fp.sv y) := by
  have hn : Fp.fin (Op.negFloat .f64 y) := by
    unfold Fp.fin; rw [(Fp.neg_parts h).1]; exact hy
  obtain ⟨w, h1, h2, h3⟩ := add_nb hx hn
  refine ⟨w, by rw [sub_add h]; exact h1, h2, ?_⟩
  rw [h3, sv_neg h]
  rfl
theorem sv_mono {x y : Nat} (h : Fp.key x ≤ Fp.key y) : Fp.sv x ≤ Fp.sv y := by
  rw [Fp.sv_key, Fp.sv_key]; exact Fp.kv_le h
/-- comparisons of numbers -/
theorem leB_key {x y : Nat} (hx : nb x) (hy : nb y) : leB x y = decide (Fp.key x ≤ Fp.key y) := by
  unfold leB
  rw [Fp.lt_key hx.2 hy.2, Fp.eq_key hx.2 hy.2, Bool.eq_iff_iff]
  simp only [Bool.or_eq_true, decide_eq_true_eq]
  omega
theorem sameB_key {x y : Nat} (hx : nb x) (hy : nb y) : sameB x y = decide (Fp.key x = Fp.key y) := by
  unfold sameB
  rw [if_neg (by rw [num_self hx]; decide), Fp.eq_key hx.2 hy.2]
theorem fin_key {x : Nat} (hx : nb x) : Fl.fin x = decide (-(Fp.INF : Int) < Fp.key x ∧ Fp.key x < Fp.INF) := by
  rw [Fp.fin_rg]
  have := hx.2
  refine decide_eq_decide.2 ?_
  unfold Fp.key
  generalize Fp.INF = I at *
  split <;> omega
theorem key_le {x : Nat} (hx : nb x) : -(Fp.INF : Int) ≤ Fp.key x ∧ Fp.key x ≤ Fp.INF := by
  have := hx.2
  unfold Fp.key
  generalize Fp.INF = I at *
  split <;> omega
theorem upW_nb {x : Nat} (hx : nb x) (h : Fp.key x ≠ Fp.INF) : nb (Fp.upW x) ∧ Fp.key (Fp.upW x) = Fp.key x + 1 := by
  obtain ⟨h1, h2, h3⟩ := Fp.up_parts hx.1 hx.2 h
  exact ⟨⟨h3, h2⟩, h1⟩
theorem dnW_nb {x : Nat} (hx : nb x) (h : Fp.key x ≠ -(Fp.INF : Int)) : nb (Fp.dnW x) ∧ Fp.key (Fp.dnW x) = Fp.key x - 1 := by
  obtain ⟨h1, h2, h3⟩ := Fp.dn_parts hx.1 hx.2 h
  exact ⟨⟨h3, h2⟩, h1⟩
theorem sound_key {x y : Nat} (hx : nb x) (hy : nb y) : soundB (x, y) = decide ((-(Fp.INF : Int) < Fp.key x ∧ Fp.key x < Fp.INF) ∧ (-(Fp.INF : Int) < Fp.key y ∧ Fp.key y < Fp.INF) ∧ Fp.key x ≤ Fp.key y) := by
  unfold soundB
  simp only
  rw [fin_key hx, fin_key hy, leB_key hx hy, Bool.eq_iff_iff]
  simp only [Bool.and_eq_true, decide_eq_true_eq, and_assoc]
/-- the same answers: span and flag -/
def same (p q : (Nat × Nat) × Bool) : Prop := p.2 = q.2 ∧ (nb p.1.1 ∧ nb q.1.1 ∧ Fp.key p.1.1 = Fp.key q.1.1) ∧ nb p.1.2 ∧ nb q.1.2 ∧ Fp.key p.1.2 = Fp.key q.1.2
theorem same_zero : same ((0, 0), false) ((0, 0), false) := ⟨rfl, ⟨num_0, num_0, rfl⟩, num_0, num_0, rfl⟩
theorem wid_same {lo hi lo' hi' : Nat} (h1 : nb lo) (h2 : nb hi) (h3 : nb lo') (h4 : nb hi') (e1 : Fp.key lo = Fp.key lo') (e2 : Fp.key hi = Fp.key hi') (hle : Fp.key lo ≤ Fp.key hi) : same (widP lo hi) (widD lo' hi') := by
  have b1 := key_le h1
  have b2 := key_le h2
  have hI : 0 < ((Fp.INF : Nat) : Int) := by decide
  have f1 := fin_key h3
  have f2 := fin_key h4
  rw [← e1] at f1
  rw [← e2] at f2
  unfold widP widD
  by_cases c : (-(Fp.INF : Int) < Fp.key lo ∧ Fp.key lo < Fp.INF) ∧ (-(Fp.INF : Int) < Fp.key hi ∧ Fp.key hi < Fp.INF)
  · rw [f1, f2, decide_eq_true c.1, decide_eq_true c.2]
    have u1 := upW_nb h4 (by rw [← e2]; omega)
    have u2 := upW_nb h2 (by omega)
    have d1 := dnW_nb h1 (by omega)
    have kn : Fp.key (Op.negFloat .f64 lo') = -Fp.key lo := by rw [Fp.key_neg h3.1, e1]
    have n1 := upW_nb (nb_neg h3) (by rw [kn]; omega)
    have n2 := nb_neg n1.1
    have kn2 : Fp.key (Op.negFloat .f64 (Fp.upW (Op.negFloat .f64 lo'))) = Fp.key lo - 1 := by rw [Fp.key_neg n1.1.1, n1.2, kn]; omega
    have ed : dnP lo = Fp.dnW lo := by unfold dnP; rw [if_neg (by omega)]
    have eu : upP hi = Fp.upW hi := by unfold upP; rw [if_neg (by omega)]
    rw [ed, eu]
    have es : soundB (Op.negFloat .f64 (Fp.upW (Op.negFloat .f64 lo')), Fp.upW hi') = soundB (Fp.dnW lo, Fp.upW hi) := by
      rw [sound_key n2 u1.1, sound_key d1.1 u2.1, kn2, u1.2, d1.2, u2.2, e2]
    rw [Bool.true_and, Bool.true_and, es]
    cases soundB (Fp.dnW lo, Fp.upW hi)
    · exact same_zero
    · exact ⟨rfl, ⟨d1.1, n2, d1.2.trans kn2.symm⟩, u2.1, u1.1, u2.2.trans (show Fp.key hi + 1 = Fp.key (Fp.upW hi') by rw [u1.2, e2])⟩
  · have hD : ¬ (Fl.fin lo' && Fl.fin hi' && soundB (Op.negFloat .f64 (Fp.upW (Op.negFloat .f64 lo')), Fp.upW hi')) = true := by
      rw [f1, f2]
      intro h
      simp only [Bool.and_eq_true, decide_eq_true_eq] at h
      exact c h.1
    rw [if_neg hD]
    have hP : soundB (dnP lo, upP hi) = false := by
      by_cases c1 : Fp.key lo = -(Fp.INF : Int)
      · have : dnP lo = lo := by unfold dnP; rw [if_pos c1]
        unfold soundB
        simp only
        rw [this, fin_key h1, decide_eq_false (by omega)]
        rfl
      · have c2 : Fp.key hi = Fp.INF := by
          generalize ((Fp.INF : Nat) : Int) = I at *
          omega
        have : upP hi = hi := by unfold upP; rw [if_pos c2]
        unfold soundB
        simp only
        rw [this, fin_key h2, decide_eq_false (by omega)]
        cases Fl.fin (dnP lo) <;> rfl
    rw [if_neg (by rw [hP]; decide)]
    exact same_zero
/-! ### the least, the greatest of a list -/
theorem fMM_key (mx : Bool) {a b : Nat} (ha : nb a) (hb : nb b) : nb (fMM mx .f64 a b) ∧ Fp.key (fMM mx .f64 a b) = if mx then max (Fp.key a) (Fp.key b) else min (Fp.key a) (Fp.key b) := by
  unfold fMM
  rw [show FloatKind.f64.format.order a b = some (compare (Fp.key a) (Fp.key b)) from Fp.order_key ha.2 hb.2]
  cases hc : compare (Fp.key a) (Fp.key b)
  · have := Int.compare_eq_lt.1 hc
    cases mx
    · exact ⟨ha, by simp; omega⟩
    · exact ⟨hb, by simp; omega⟩
  · have := Int.compare_eq_eq.1 hc
    cases mx <;> cases (FloatKind.f64.decode a).neg <;> simp <;> first | exact ⟨ha, by omega⟩ | exact ⟨hb, by omega⟩
  · have := Int.compare_eq_gt.1 hc
    cases mx
    · exact ⟨hb, by simp; omega⟩
    · exact ⟨ha, by simp; omega⟩
/-- the program's, element by element -/
def mmV (mx : Bool) (l : List Nat) : Nat → Nat
  | 0 => l.getD 0 0
  | k + 1 => fMM mx .f64 (mmV mx l k) (l.getD (k + 1) 0)
/-- the document's -/
def loV (l : List Nat) : Nat → Nat
  | 0 => l.getD 0 0
  | k + 1 => if (FloatKind.f64.format.order (l.getD (k + 1) 0) (loV l k) == some .lt) = true then l.getD (k + 1) 0 else loV l k
def hiV (l : List Nat) : Nat → Nat
  | 0 => l.getD 0 0
  | k + 1 => if (FloatKind.f64.format.order (l.getD (k + 1) 0) (hiV l k) == some .gt) = true then l.getD (k + 1) 0 else hiV l k
theorem mm_keys {l : List Nat} (hl : ∀ i, i < l.length → nb (l.getD i 0)) : ∀ k, k < l.length → (nb (mmV false l k) ∧ nb (loV l k) ∧ Fp.key (mmV false l k) = Fp.key (loV l k)) ∧ (nb (mmV true l k) ∧ nb (hiV l k) ∧ Fp.key (mmV true l k) = Fp.key (hiV l k)) ∧ Fp.key (mmV false l k) ≤ Fp.key (l.getD 0 0) ∧ Fp.key (l.getD 0 0) ≤ Fp.key (mmV true l k)
  | 0, h => ⟨⟨hl 0 h, hl 0 h, rfl⟩, ⟨hl 0 h, hl 0 h, rfl⟩, Int.le_refl _, Int.le_refl _⟩
  | k + 1, h => by
    obtain ⟨⟨a1, a2, a3⟩, ⟨b1, b2, b3⟩, c1, c2⟩ := mm_keys hl k (by omega)
    have hk := hl (k + 1) h
    obtain ⟨m1, m2⟩ := fMM_key false a1 hk
    obtain ⟨n1, n2⟩ := fMM_key true b1 hk
    simp only [Bool.false_eq_true, if_false] at m2
    simp only [if_true] at n2
    have o1 := Fp.lt_key hk.2 a2.2
    have o2 := Fp.gt_key hk.2 b2.2
    unfold mmV loV hiV
    rw [o1, o2, m2, n2]
    refine ⟨⟨m1, ?_, ?_⟩, ⟨n1, ?_, ?_⟩, by omega, by omega⟩
    · split <;> assumption
    · split
      · rename_i h'; have := of_decide_eq_true h'; omega
      · rename_i h'; have : ¬ Fp.key (l.getD (k + 1) 0) < Fp.key (loV l k) := fun c => h' (decide_eq_true c); omega
    · split <;> assumption
    · split
      · rename_i h'; have := of_decide_eq_true h'; omega
      · rename_i h'; have : ¬ Fp.key (hiV l k) < Fp.key (l.getD (k + 1) 0) := fun c => h' (decide_eq_true c); omega
/-! ### what two spans give -/
def fadd (x y : Nat) : Nat := (FloatKind.f64.format.add x y).getD 0
def fsub (x y : Nat) : Nat := (FloatKind.f64.format.sub x y).getD 0
def fmul (x y : Nat) : Nat := (FloatKind.f64.format.mul x y).getD 0
def fdiv (x y : Nat) : Nat := (FloatKind.f64.format.div x y).getD 0
def geB (x y : Nat) : Bool := FloatKind.f64.format.order x y == some .gt || FloatKind.f64.format.order x y == some .eq
def joinP (a b : Nat × Nat) (how : Int) : (Nat × Nat) × Bool :=
  if (soundB a && soundB b) = true then
    (if how = 43 then widP (fadd a.1 b.1) (fadd a.2 b.2) else if how = 45 then widP (fsub a.1 b.2) (fsub a.2 b.1)
    else if how = 42 then widP (mmV false [fmul a.1 b.1, fmul a.1 b.2, fmul a.2 b.1, fmul a.2 b.2] 3) (mmV true [fmul a.1 b.1, fmul a.1 b.2, fmul a.2 b.1, fmul a.2 b.2] 3)
    else if how = 47 then (if (leB b.1 0 && geB b.2 0) = true then ((0, 0), false) else widP (mmV false [fdiv a.1 b.1, fdiv a.1 b.2, fdiv a.2 b.1, fdiv a.2 b.2] 3) (mmV true [fdiv a.1 b.1, fdiv a.1 b.2, fdiv a.2 b.1, fdiv a.2 b.2] 3))
    else ((0, 0), false)) else ((0, 0), false)
def joinD (a b : Nat × Nat) (how : Int) : (Nat × Nat) × Bool :=
  if (soundB a && soundB b) = true then
    (if how = 43 then widD (loV [fadd a.1 b.1, fadd a.2 b.2] 1) (hiV [fadd a.1 b.1, fadd a.2 b.2] 1) else if how = 45 then widD (loV [fsub a.1 b.2, fsub a.2 b.1] 1) (hiV [fsub a.1 b.2, fsub a.2 b.1] 1)
    else if how = 42 then widD (loV [fmul a.1 b.1, fmul a.1 b.2, fmul a.2 b.1, fmul a.2 b.2] 3) (hiV [fmul a.1 b.1, fmul a.1 b.2, fmul a.2 b.1, fmul a.2 b.2] 3)
    else if how = 47 then (if (leB b.1 0 && geB b.2 0) = true then ((0, 0), false) else widD (loV [fdiv a.1 b.1, fdiv a.1 b.2, fdiv a.2 b.1, fdiv a.2 b.2] 3) (hiV [fdiv a.1 b.1, fdiv a.1 b.2, fdiv a.2 b.1, fdiv a.2 b.2] 3))
    else ((0, 0), false)) else ((0, 0), false)
/-- what a sound span is -/
structure Snd (a : Nat × Nat) : Prop where
  f1 : Fp.fin a.1
  f2 : Fp.fin a.2
  n1 : nb a.1
  n2 : nb a.2
  le : Fp.key a.1 ≤ Fp.key a.2
theorem snd_of {a : Nat × Nat} (h1 : a.1 < 18446744073709551616) (h2 : a.2 < 18446744073709551616) (h : soundB a = true) : Snd a := by
  unfold soundB at h
  simp only [Bool.and_eq_true] at h
  obtain ⟨⟨f1, f2⟩, l⟩ := h
  rw [Fp.fin_rg] at f1 f2
  have f1 : Fp.fin a.1 := by unfold Fp.fin; exact of_decide_eq_true f1
  have f2 : Fp.fin a.2 := by unfold Fp.fin; exact of_decide_eq_true f2
  have n1 : nb a.1 := ⟨h1, Nat.le_of_lt f1⟩
  have n2 : nb a.2 := ⟨h2, Nat.le_of_lt f2⟩
  rw [leB_key n1 n2] at l
  exact ⟨f1, f2, n1, n2, of_decide_eq_true l⟩
theorem fadd_nb {x y : Nat} (hx : Fp.fin x) (hy : Fp.fin y) : FloatKind.f64.format.add x y = some (fadd x y) ∧ nb (fadd x y) ∧ Fp.key (fadd x y) = Fp.KK (Fp.sv x + Fp.sv y) := by
  obtain ⟨w, h1, h2, h3⟩ := add_nb hx hy
  have e : FloatKind.f64.format.add x y = some w := h1
  unfold fadd; rw [e]; exact ⟨rfl, h2, h3⟩
theorem fsub_nb {x y : Nat} (hx : Fp.fin x) (hy : Fp.fin y) (h : y < 18446744073709551616) : FloatKind.f64.format.sub x y = some (fsub x y) ∧ nb (fsub x y) ∧ Fp.key (fsub x y) = Fp.KK (Fp.sv x - Fp.sv y) := by
  obtain ⟨w, h1, h2, h3⟩ := sub_nb hx hy h
  have e : FloatKind.f64.format.sub x y = some w := h1
  unfold fsub; rw [e]; exact ⟨rfl, h2, h3⟩
theorem fmul_nb {x y : Nat} (hx : Fp.fin x) (hy : Fp.fin y) : FloatKind.f64.format.mul x y = some (fmul x y) ∧ nb (fmul x y) := by
  obtain ⟨w, h1, h2⟩ := mul_nb hx hy
  have e : FloatKind.f64.format.mul x y = some w := h1
  unfold fmul; rw [e]; exact ⟨rfl, h2⟩
theorem fdiv_nb {x y : Nat} (hx : Fp.fin x) (hy : Fp.fin y) (h0 : Fp.key y ≠ 0) : FloatKind.f64.format.div x y = some (fdiv x y) ∧ nb (fdiv x y) := by
  obtain ⟨w, h1, h2⟩ := div_nb hx hy h0
  have e : FloatKind.f64.format.div x y = some w := h1
  unfold fdiv; rw [e]; exact ⟨rfl, h2⟩
/-- no zero in a sound span: its ends are none -/
theorem no_zero {b : Nat × Nat} (S : Snd b) (h : (leB b.1 0 && geB b.2 0) = false) : Fp.key b.1 ≠ 0 ∧ Fp.key b.2 ≠ 0 := by
  rw [leB_key S.n1 num_0, key_zero] at h
  unfold geB at h
  rw [Fp.gt_key S.n2.2 num_0.2, Fp.eq_key S.n2.2 num_0.2, key_zero] at h
  have := S.le
  constructor
  · intro c
    rw [decide_eq_true (by omega), Bool.true_and] at h
    simp only [Bool.or_eq_false_iff, decide_eq_false_iff_not] at h
    omega
  · intro c
    rw [decide_eq_true (by omega : Fp.key b.1 ≤ 0), Bool.true_and] at h
    simp only [Bool.or_eq_false_iff, decide_eq_false_iff_not] at h
    omega
theorem nb4 {w x y z : Nat} (h1 : nb w) (h2 : nb x) (h3 : nb y) (h4 : nb z) : ∀ i, i < [w, x, y, z].length → nb ([w, x, y, z].getD i 0) := by
  intro i hi
  have hi : i < 4 := hi
  obtain rfl | rfl | rfl | rfl : i = 0 ∨ i = 1 ∨ i = 2 ∨ i = 3 := by omega
  · exact h1
  · exact h2
  · exact h3
  · exact h4
theorem nb2 {w x : Nat} (h1 : nb w) (h2 : nb x) : ∀ i, i < [w, x].length → nb ([w, x].getD i 0) := by
  intro i hi
  have hi : i < 2 := hi
  obtain rfl | rfl : i = 0 ∨ i = 1 := by omega
  · exact h1
  · exact h2
theorem wid_four {l : List Nat} (hl : ∀ i, i < l.length → nb (l.getD i 0)) {k : Nat} (hk : k < l.length) : same (widP (mmV false l k) (mmV true l k)) (widD (loV l k) (hiV l k)) := by
  obtain ⟨⟨a1, a2, a3⟩, ⟨b1, b2, b3⟩, c1, c2⟩ := mm_keys hl k hk
  exact wid_same a1 b1 a2 b2 a3 b3 (by omega)
theorem wid_two {x y : Nat} (hx : nb x) (hy : nb y) (h : Fp.key x ≤ Fp.key y) : same (widP x y) (widD (loV [x, y] 1) (hiV [x, y] 1)) := by
  obtain ⟨⟨a1, a2, a3⟩, ⟨b1, b2, b3⟩, c1, c2⟩ := mm_keys (nb2 hx hy) 1 (by show 1 < 2; omega)
  obtain ⟨m1, m2⟩ := fMM_key false hx hy
  obtain ⟨n1, n2⟩ := fMM_key true hx hy
  have e1 : Fp.key (mmV false [x, y] 1) = min (Fp.key x) (Fp.key y) := m2
  have e2 : Fp.key (mmV true [x, y] 1) = max (Fp.key x) (Fp.key y) := n2
  exact wid_same hx hy a2 b2 (by omega) (by omega) h
theorem join_same (a b : Nat × Nat) (how : Int) (ha : a.1 < 18446744073709551616 ∧ a.2 < 18446744073709551616) (hb : b.1 < 18446744073709551616 ∧ b.2 < 18446744073709551616) : same (joinP a b how) (joinD a b how) := by
  unfold joinP joinD
  by_cases hs : (soundB a && soundB b) = true
  · rw [if_pos hs, if_pos hs]
    simp only [Bool.and_eq_true] at hs
    have A := snd_of ha.1 ha.2 hs.1
    have B := snd_of hb.1 hb.2 hs.2
    have sa := sv_mono A.le
    have sb := sv_mono B.le
    by_cases h1 : how = 43
    · rw [if_pos h1, if_pos h1]
      obtain ⟨_, p1, p2⟩ := fadd_nb A.f1 B.f1
      obtain ⟨_, q1, q2⟩ := fadd_nb A.f2 B.f2
      exact wid_two p1 q1 (by rw [p2, q2]; exact Fp.KK_mono (by omega))
    rw [if_neg h1, if_neg h1]
    by_cases h2 : how = 45
    · rw [if_pos h2, if_pos h2]
      obtain ⟨_, p1, p2⟩ := fsub_nb A.f1 B.f2 hb.2
      obtain ⟨_, q1, q2⟩ := fsub_nb A.f2 B.f1 hb.1
      exact wid_two p1 q1 (by rw [p2, q2]; exact Fp.KK_mono (by omega))
    rw [if_neg h2, if_neg h2]
    by_cases h3 : how = 42
    · rw [if_pos h3, if_pos h3]
      exact wid_four (nb4 (fmul_nb A.f1 B.f1).2 (fmul_nb A.f1 B.f2).2 (fmul_nb A.f2 B.f1).2 (fmul_nb A.f2 B.f2).2) (by show 3 < 4; omega)
    rw [if_neg h3, if_neg h3]
    by_cases h4 : how = 47
    · rw [if_pos h4, if_pos h4]
      cases hz : leB b.1 0 && geB b.2 0
      · obtain ⟨z1, z2⟩ := no_zero B hz
        exact wid_four (nb4 (fdiv_nb A.f1 B.f1 z1).2 (fdiv_nb A.f1 B.f2 z2).2 (fdiv_nb A.f2 B.f1 z1).2 (fdiv_nb A.f2 B.f2 z2).2) (by show 3 < 4; omega)
      · exact same_zero
    rw [if_neg h4, if_neg h4]
    exact same_zero
  · rw [if_neg hs, if_neg hs]
    exact same_zero
theorem same_span {p q : (Nat × Nat) × Bool} (h : same p q) : (p.2 == q.2) = true ∧ (sameB p.1.1 q.1.1 && sameB p.1.2 q.1.2) = true := by
  obtain ⟨h1, ⟨a1, a2, a3⟩, b1, b2, b3⟩ := h
  rw [sameB_key a1 a2, sameB_key b1 b2, h1]
  simp [a3, b3]
end Go.Proofs.Ytlmmhmoihmlljaa
/-
  Spans: what two give, walked.
-/
namespace Go.Proofs.Ytlmmhmoihmlljaa
open Go Go.Ab Go.RowKit
set_option maxRecDepth 100000
theorem some_iff {o : Option Nat} {v : Nat} (h : o = some v) : o.isSome = true := by rw [h]; rfl
theorem ord_some {x y : Nat} (hx : nb x) (hy : nb y) : (FloatKind.f64.format.order x y).isSome = true := by
  rw [show FloatKind.f64.format.order x y = some (compare (Fp.key x) (Fp.key y)) from Fp.order_key hx.2 hy.2]; rfl
theorem mulA (G : List (Nat × Value)) (x y : Nat) (h : FloatKind.f64.format.mul x y = some (fmul x y)) (K : AV → List AO → Prop) (hK : K (.fz F64 (fmul x y)) []) : ACall Try.prog G 45 [.fz F64 x, .fz F64 y] [] K := by
  have hs := some_iff h
  refine acall_mk (E := envAt G 8 0) (envOk _ _ _) Try.func45 rfl rfl rfl rfl rfl ?_
  (repeat' (first | exact trivial | exact fun h => h | refine And.intro ?_ ?_ | (intro hb; first | (simp at hb; done) | (simp at hb) | skip) | omega | exact rfl | exact Nat.le_refl _ | (show _ + 1 ≤ 4294967296; omega) | (dsimp only; omega) | (show (_ : Int) ≤ (_ : Int); omega) | (show _ < List.length _; simp only [List.length_set, List.length_append, List.length_take]; omega) | (show wantB _ _ = true; simp; done) | (show wantB _ _ = true; simp; omega) | (show (_ : Bool) = _; simp_all; done) | (exfalso; omega) | refine aRegion_auto (by decide +kernel) ?_ | refine ⟨_, _, REnt.drop ⟨rfl, rfl⟩, ?_⟩ | fail))
  all_goals first | exact hs | exact hK
theorem divA (G : List (Nat × Value)) (x y : Nat) (h : FloatKind.f64.format.div x y = some (fdiv x y)) (K : AV → List AO → Prop) (hK : K (.fz F64 (fdiv x y)) []) : ACall Try.prog G 46 [.fz F64 x, .fz F64 y] [] K := by
  have hs := some_iff h
  refine acall_mk (E := envAt G 8 0) (envOk _ _ _) Try.func46 rfl rfl rfl rfl rfl ?_
  (repeat' (first | exact trivial | exact fun h => h | refine And.intro ?_ ?_ | (intro hb; first | (simp at hb; done) | (simp at hb) | skip) | omega | exact rfl | exact Nat.le_refl _ | (show _ + 1 ≤ 4294967296; omega) | (dsimp only; omega) | (show (_ : Int) ≤ (_ : Int); omega) | (show _ < List.length _; simp only [List.length_set, List.length_append, List.length_take]; omega) | (show wantB _ _ = true; simp; done) | (show wantB _ _ = true; simp; omega) | (show (_ : Bool) = _; simp_all; done) | (exfalso; omega) | refine aRegion_auto (by decide +kernel) ?_ | refine ⟨_, _, REnt.drop ⟨rfl, rfl⟩, ?_⟩ | fail))
  all_goals first | exact hs | exact hK
theorem mm_nb {l : List Nat} (mx : Bool) (hl : ∀ i, i < l.length → nb (l.getD i 0)) : ∀ k, k < l.length → nb (mmV mx l k)
  | 0, h => hl 0 h
  | k + 1, h => (fMM_key mx (mm_nb mx hl k (by omega)) (hl (k + 1) h)).1
theorem minA (G : List (Nat × Value)) (l : List Nat) (n : Nat) (hn : l.length = n + 1) (hs : n ≤ 1000) (hl : ∀ i, i < l.length → nb (l.getD i 0)) (K : AV → List AO → Prop) (hK : K (.fz F64 (mmV false l n)) [.row F64 l]) :
    ACall Try.prog G 47 [.ref 0 0 (n + 1)] [.row F64 l] K := by
  refine acall_mk (E := envAt G 25 1) (envOk _ _ _) Try.func47 rfl rfl rfl rfl rfl ?_
  (repeat' (first | exact trivial | exact fun h => h | refine And.intro ?_ ?_ | (intro hb; first | (simp at hb; done) | (simp at hb) | skip) | omega | exact rfl | exact Nat.le_refl _ | (show _ + 1 ≤ 4294967296; omega) | (dsimp only; omega) | (show (_ : Int) ≤ (_ : Int); omega) | (show _ < List.length _; simp only [List.length_set, List.length_append, List.length_take]; omega) | (show wantB _ _ = true; simp; done) | (show wantB _ _ = true; simp; omega) | (show (_ : Bool) = _; simp_all; done) | (exfalso; omega) | refine aRegion_auto (by decide +kernel) ?_ | fail))
  refine ⟨Nat, fun k => ⟨[(0, .ref 0 0 (n + 1)), (3, .fz F64 (mmV false l k)), (4, .fz int ((k : Int) + 1))], [.row F64 l]⟩, fun k => k ≤ n, fun k => n - k, 0, Nat.zero_le _, Ent.sub rfl ?_, ?_⟩
  · (repeat' (first | exact trivial | exact rfl | refine And.intro ?_ ?_))
  intro k hk
  have hk : k ≤ n := hk
  show awp _ _ _ ⟨[(0, .ref 0 0 (n + 1)), (3, .fz F64 (mmV false l k)), (4, .fz int ((k : Int) + 1))], [.row F64 l]⟩
  by_cases hk2 : k < n
  · have o := ord_some (mm_nb false hl k (by omega)) (hl (k + 1) (by omega))
    have g : List.getD l (0 + Int.toNat ((k : Int) + 1)) (F64 : Ty).dft = l.getD (k + 1) 0 := by
      rw [Nat.zero_add, show Int.toNat ((k : Int) + 1) = k + 1 by omega]; rfl
    (repeat' (first | exact trivial | exact fun h => h | refine And.intro ?_ ?_ | (intro hb; first | (simp at hb; done) | (simp at hb) | skip) | omega | exact rfl | exact Nat.le_refl _ | (show _ + 1 ≤ 4294967296; omega) | (dsimp only; omega) | (show (_ : Int) ≤ (_ : Int); omega) | (show _ < List.length _; simp only [List.length_set, List.length_append, List.length_take]; omega) | (show wantB _ _ = true; simp; done) | (show wantB _ _ = true; simp; omega) | (show (_ : Bool) = _; simp_all; done) | (exfalso; omega) | refine aRegion_auto (by decide +kernel) ?_ | fail))
    refine ⟨k + 1, by show k + 1 ≤ n; omega, by show n - (k + 1) < n - k; omega, Ent.sub rfl ?_⟩
    (repeat' (first | exact trivial | exact rfl | refine And.intro ?_ ?_))
    · exact congrArg (AV.fz F64) (show fMM false .f64 (mmV false l k) (List.getD l (0 + Int.toNat ((k : Int) + 1)) (F64 : Ty).dft) = mmV false l (k + 1) by rw [g]; rfl)
  · have hk3 : k = n := by omega
    subst hk3
    (repeat' (first | exact trivial | exact fun h => h | refine And.intro ?_ ?_ | (intro hb; first | (simp at hb; done) | (simp at hb) | skip) | omega | exact rfl | exact Nat.le_refl _ | (show _ + 1 ≤ 4294967296; omega) | (dsimp only; omega) | (show (_ : Int) ≤ (_ : Int); omega) | (show _ < List.length _; simp only [List.length_set, List.length_append, List.length_take]; omega) | (show wantB _ _ = true; simp; done) | (show wantB _ _ = true; simp; omega) | (show (_ : Bool) = _; simp_all; done) | (exfalso; omega) | refine aRegion_auto (by decide +kernel) ?_ | fail))
    refine ⟨_, _, REnt.refl _ _ _, hK⟩
theorem maxA (G : List (Nat × Value)) (l : List Nat) (n : Nat) (hn : l.length = n + 1) (hs : n ≤ 1000) (hl : ∀ i, i < l.length → nb (l.getD i 0)) (K : AV → List AO → Prop) (hK : K (.fz F64 (mmV true l n)) [.row F64 l]) :
    ACall Try.prog G 48 [.ref 0 0 (n + 1)] [.row F64 l] K := by
  refine acall_mk (E := envAt G 25 1) (envOk _ _ _) Try.func48 rfl rfl rfl rfl rfl ?_
  (repeat' (first | exact trivial | exact fun h => h | refine And.intro ?_ ?_ | (intro hb; first | (simp at hb; done) | (simp at hb) | skip) | omega | exact rfl | exact Nat.le_refl _ | (show _ + 1 ≤ 4294967296; omega) | (dsimp only; omega) | (show (_ : Int) ≤ (_ : Int); omega) | (show _ < List.length _; simp only [List.length_set, List.length_append, List.length_take]; omega) | (show wantB _ _ = true; simp; done) | (show wantB _ _ = true; simp; omega) | (show (_ : Bool) = _; simp_all; done) | (exfalso; omega) | refine aRegion_auto (by decide +kernel) ?_ | fail))
  refine ⟨Nat, fun k => ⟨[(0, .ref 0 0 (n + 1)), (3, .fz F64 (mmV true l k)), (4, .fz int ((k : Int) + 1))], [.row F64 l]⟩, fun k => k ≤ n, fun k => n - k, 0, Nat.zero_le _, Ent.sub rfl ?_, ?_⟩
  · (repeat' (first | exact trivial | exact rfl | refine And.intro ?_ ?_))
  intro k hk
  have hk : k ≤ n := hk
  show awp _ _ _ ⟨[(0, .ref 0 0 (n + 1)), (3, .fz F64 (mmV true l k)), (4, .fz int ((k : Int) + 1))], [.row F64 l]⟩
  by_cases hk2 : k < n
  · have o := ord_some (mm_nb true hl k (by omega)) (hl (k + 1) (by omega))
    have g : List.getD l (0 + Int.toNat ((k : Int) + 1)) (F64 : Ty).dft = l.getD (k + 1) 0 := by
      rw [Nat.zero_add, show Int.toNat ((k : Int) + 1) = k + 1 by omega]; rfl
    (repeat' (first | exact trivial | exact fun h => h | refine And.intro ?_ ?_ | (intro hb; first | (simp at hb; done) | (simp at hb) | skip) | omega | exact rfl | exact Nat.le_refl _ | (show _ + 1 ≤ 4294967296; omega) | (dsimp only; omega) | (show (_ : Int) ≤ (_ : Int); omega) | (show _ < List.length _; simp only [List.length_set, List.length_append, List.length_take]; omega) | (show wantB _ _ = true; simp; done) | (show wantB _ _ = true; simp; omega) | (show (_ : Bool) = _; simp_all; done) | (exfalso; omega) | refine aRegion_auto (by decide +kernel) ?_ | fail))
    refine ⟨k + 1, by show k + 1 ≤ n; omega, by show n - (k + 1) < n - k; omega, Ent.sub rfl ?_⟩
    (repeat' (first | exact trivial | exact rfl | refine And.intro ?_ ?_))
    · exact congrArg (AV.fz F64) (show fMM true .f64 (mmV true l k) (List.getD l (0 + Int.toNat ((k : Int) + 1)) (F64 : Ty).dft) = mmV true l (k + 1) by rw [g]; rfl)
  · have hk3 : k = n := by omega
    subst hk3
    (repeat' (first | exact trivial | exact fun h => h | refine And.intro ?_ ?_ | (intro hb; first | (simp at hb; done) | (simp at hb) | skip) | omega | exact rfl | exact Nat.le_refl _ | (show _ + 1 ≤ 4294967296; omega) | (dsimp only; omega) | (show (_ : Int) ≤ (_ : Int); omega) | (show _ < List.length _; simp only [List.length_set, List.length_append, List.length_take]; omega) | (show wantB _ _ = true; simp; done) | (show wantB _ _ = true; simp; omega) | (show (_ : Bool) = _; simp_all; done) | (exfalso; omega) | refine aRegion_auto (by decide +kernel) ?_ | fail))
    refine ⟨_, _, REnt.refl _ _ _, hK⟩
theorem zer_t {x y : Nat} (h : (FloatKind.f64.format.order x 0 = some Ordering.lt ∨ FloatKind.f64.format.order x 0 = some Ordering.eq) ∧ (FloatKind.f64.format.order y 0 = some Ordering.gt ∨ FloatKind.f64.format.order y 0 = some Ordering.eq)) : (leB x 0 && geB y 0) = true := by
  unfold leB geB; simp; exact h
theorem zer_f {x y : Nat} (h : FloatKind.f64.format.order x 0 = some Ordering.lt ∨ FloatKind.f64.format.order x 0 = some Ordering.eq → ¬FloatKind.f64.format.order y 0 = some Ordering.gt ∧ ¬FloatKind.f64.format.order y 0 = some Ordering.eq) : (leB x 0 && geB y 0) = false := by
  unfold leB geB; simp; exact h
set_option maxHeartbeats 4000000 in
theorem joinA (G : List (Nat × Value)) (a b : Nat × Nat) (how : Int) (hla : a.1 < 18446744073709551616 ∧ a.2 < 18446744073709551616) (hlb : b.1 < 18446744073709551616 ∧ b.2 < 18446744073709551616) (K : AV → List AO → Prop) (hK : K (.tup [.fz SpT (joinP a b how).1, .fz .bool (joinP a b how).2]) []) :
    ACall Try.prog G 21 [.fz SpT a, .fz SpT b, .fz (.int .u8) how] [] K := by
  obtain ⟨a1, a2⟩ := a
  obtain ⟨b1, b2⟩ := b
  unfold joinP at hK
  refine acall_mk (E := envAt G 96 0) (envOk _ _ _) Try.func21 rfl rfl rfl rfl rfl ?_
  (repeat' (first | exact trivial | exact fun h => h | refine And.intro ?_ ?_ | (intro hb; first | (simp at hb; done) | (simp at hb) | skip) | omega | exact rfl | exact Nat.le_refl _ | (show _ + 1 ≤ 4294967296; omega) | (dsimp only; omega) | (show (_ : Int) ≤ (_ : Int); omega) | (show _ < List.length _; simp only [List.length_set, List.length_append, List.length_take]; omega) | (show wantB _ _ = true; simp; done) | (show wantB _ _ = true; simp; omega) | (show (_ : Bool) = _; simp_all; done) | (exfalso; omega) | refine aRegion_auto (by decide +kernel) ?_ | fail))
  refine acall_conv [.dat SpT] _ _ _ rfl trivial (acall_frame0 rfl (soundA _ (a1, a2) _ ?_))
  cases hs : soundB (a1, a2)
  · rw [hs] at hK
    (repeat' (first | exact trivial | exact fun h => h | refine And.intro ?_ ?_ | (intro hb; first | (simp at hb; done) | (simp at hb) | skip) | omega | exact rfl | exact Nat.le_refl _ | (show _ + 1 ≤ 4294967296; omega) | (dsimp only; omega) | (show (_ : Int) ≤ (_ : Int); omega) | (show _ < List.length _; simp only [List.length_set, List.length_append, List.length_take]; omega) | (show wantB _ _ = true; simp; done) | (show wantB _ _ = true; simp; omega) | (show (_ : Bool) = _; simp_all; done) | (exfalso; omega) | refine aRegion_auto (by decide +kernel) ?_ | fail))
    refine ⟨_, _, (REnt.conv [.dat SpT, .keep] _ rfl trivial).trans (REnt.drop ⟨rfl, rfl⟩), ?_⟩
    exact hK
  (repeat' (first | exact trivial | exact fun h => h | refine And.intro ?_ ?_ | (intro hb; first | (simp at hb; done) | (simp at hb) | skip) | omega | exact rfl | exact Nat.le_refl _ | (show _ + 1 ≤ 4294967296; omega) | (dsimp only; omega) | (show (_ : Int) ≤ (_ : Int); omega) | (show _ < List.length _; simp only [List.length_set, List.length_append, List.length_take]; omega) | (show wantB _ _ = true; simp; done) | (show wantB _ _ = true; simp; omega) | (show (_ : Bool) = _; simp_all; done) | (exfalso; omega) | refine aRegion_auto (by decide +kernel) ?_ | fail))
  refine acall_conv [.dat SpT] _ _ _ rfl trivial (acall_frame0 rfl (soundA _ (b1, b2) _ ?_))
  cases hs2 : soundB (b1, b2)
  · rw [hs, hs2] at hK
    (repeat' (first | exact trivial | exact fun h => h | refine And.intro ?_ ?_ | (intro hb; first | (simp at hb; done) | (simp at hb) | skip) | omega | exact rfl | exact Nat.le_refl _ | (show _ + 1 ≤ 4294967296; omega) | (dsimp only; omega) | (show (_ : Int) ≤ (_ : Int); omega) | (show _ < List.length _; simp only [List.length_set, List.length_append, List.length_take]; omega) | (show wantB _ _ = true; simp; done) | (show wantB _ _ = true; simp; omega) | (show (_ : Bool) = _; simp_all; done) | (exfalso; omega) | refine aRegion_auto (by decide +kernel) ?_ | fail))
    refine ⟨_, _, (REnt.conv [.dat SpT, .keep] _ rfl trivial).trans (REnt.drop ⟨rfl, rfl⟩), ?_⟩
    exact hK
  rw [hs, hs2, if_pos (show (true && true) = true from rfl)] at hK
  have A := snd_of (a := (a1, a2)) hla.1 hla.2 hs
  have B := snd_of (a := (b1, b2)) hlb.1 hlb.2 hs2
  clear hla hlb hs hs2
  by_cases h1 : how = 43
  · rw [if_pos h1] at hK
    obtain ⟨p0, p1, p2⟩ := fadd_nb A.f1 B.f1
    obtain ⟨q0, q1, q2⟩ := fadd_nb A.f2 B.f2
    have p0' := some_iff p0
    have q0' := some_iff q0
    (repeat' (first | exact trivial | exact fun h => h | refine And.intro ?_ ?_ | (intro hb; first | (simp at hb; done) | (simp at hb) | skip) | omega | exact rfl | exact Nat.le_refl _ | (show _ + 1 ≤ 4294967296; omega) | (dsimp only; omega) | (show (_ : Int) ≤ (_ : Int); omega) | (show _ < List.length _; simp only [List.length_set, List.length_append, List.length_take]; omega) | (show wantB _ _ = true; simp; done) | (show wantB _ _ = true; simp; omega) | (show (_ : Bool) = _; simp_all; done) | (exfalso; omega) | refine aRegion_auto (by decide +kernel) ?_ | fail))
    all_goals first | exact p0' | exact q0' | skip
    refine acall_frame0 rfl (widerA _ (fadd a1 b1) (fadd a2 b2) p1 q1 _ ?_)
    (repeat' (first | exact trivial | exact fun h => h | refine And.intro ?_ ?_ | (intro hb; first | (simp at hb; done) | (simp at hb) | skip) | omega | exact rfl | exact Nat.le_refl _ | (show _ + 1 ≤ 4294967296; omega) | (dsimp only; omega) | (show (_ : Int) ≤ (_ : Int); omega) | (show _ < List.length _; simp only [List.length_set, List.length_append, List.length_take]; omega) | (show wantB _ _ = true; simp; done) | (show wantB _ _ = true; simp; omega) | (show (_ : Bool) = _; simp_all; done) | (exfalso; omega) | refine aRegion_auto (by decide +kernel) ?_ | fail))
    refine ⟨_, _, (REnt.conv [.dat SpT, .keep] _ rfl trivial).trans (REnt.drop ⟨rfl, rfl⟩), ?_⟩
    exact hK
  rw [if_neg h1] at hK
  by_cases h2 : how = 45
  · rw [if_pos h2] at hK
    obtain ⟨p0, p1, p2⟩ := fsub_nb A.f1 B.f2 B.n2.1
    obtain ⟨q0, q1, q2⟩ := fsub_nb A.f2 B.f1 B.n1.1
    have p0' := some_iff p0
    have q0' := some_iff q0
    (repeat' (first | exact trivial | exact fun h => h | refine And.intro ?_ ?_ | (intro hb; first | (simp at hb; done) | (simp at hb) | skip) | omega | exact rfl | exact Nat.le_refl _ | (show _ + 1 ≤ 4294967296; omega) | (dsimp only; omega) | (show (_ : Int) ≤ (_ : Int); omega) | (show _ < List.length _; simp only [List.length_set, List.length_append, List.length_take]; omega) | (show wantB _ _ = true; simp; done) | (show wantB _ _ = true; simp; omega) | (show (_ : Bool) = _; simp_all; done) | (exfalso; omega) | refine aRegion_auto (by decide +kernel) ?_ | fail))
    all_goals first | exact p0' | exact q0' | skip
    refine acall_frame0 rfl (widerA _ (fsub a1 b2) (fsub a2 b1) p1 q1 _ ?_)
    (repeat' (first | exact trivial | exact fun h => h | refine And.intro ?_ ?_ | (intro hb; first | (simp at hb; done) | (simp at hb) | skip) | omega | exact rfl | exact Nat.le_refl _ | (show _ + 1 ≤ 4294967296; omega) | (dsimp only; omega) | (show (_ : Int) ≤ (_ : Int); omega) | (show _ < List.length _; simp only [List.length_set, List.length_append, List.length_take]; omega) | (show wantB _ _ = true; simp; done) | (show wantB _ _ = true; simp; omega) | (show (_ : Bool) = _; simp_all; done) | (exfalso; omega) | refine aRegion_auto (by decide +kernel) ?_ | fail))
    refine ⟨_, _, (REnt.conv [.dat SpT, .keep] _ rfl trivial).trans (REnt.drop ⟨rfl, rfl⟩), ?_⟩
    exact hK
  rw [if_neg h2] at hK
  by_cases h3 : how = 42
  · rw [if_pos h3] at hK
    obtain ⟨p0, p1⟩ := fmul_nb A.f1 B.f1
    obtain ⟨q0, q1⟩ := fmul_nb A.f1 B.f2
    obtain ⟨r0, r1⟩ := fmul_nb A.f2 B.f1
    obtain ⟨s0, s1⟩ := fmul_nb A.f2 B.f2
    (repeat' (first | exact trivial | exact fun h => h | refine And.intro ?_ ?_ | (intro hb; first | (simp at hb; done) | (simp at hb) | skip) | omega | exact rfl | exact Nat.le_refl _ | (show _ + 1 ≤ 4294967296; omega) | (dsimp only; omega) | (show (_ : Int) ≤ (_ : Int); omega) | (show _ < List.length _; simp only [List.length_set, List.length_append, List.length_take]; omega) | (show wantB _ _ = true; simp; done) | (show wantB _ _ = true; simp; omega) | (show (_ : Bool) = _; simp_all; done) | (exfalso; omega) | refine aRegion_auto (by decide +kernel) ?_ | fail))
    apply exEff
    · refine acall_frame0 rfl (mulA _ a1 b1 p0 _ ?_)
      exact ⟨rfl, rfl⟩
    (repeat' (first | exact trivial | exact fun h => h | refine And.intro ?_ ?_ | (intro hb; first | (simp at hb; done) | (simp at hb) | skip) | omega | exact rfl | exact Nat.le_refl _ | (show _ + 1 ≤ 4294967296; omega) | (dsimp only; omega) | (show (_ : Int) ≤ (_ : Int); omega) | (show _ < List.length _; simp only [List.length_set, List.length_append, List.length_take]; omega) | (show wantB _ _ = true; simp; done) | (show wantB _ _ = true; simp; omega) | (show (_ : Bool) = _; simp_all; done) | (exfalso; omega) | refine aRegion_auto (by decide +kernel) ?_ | fail))
    apply exEff
    · refine acall_frame0 rfl (mulA _ a1 b2 q0 _ ?_)
      exact ⟨rfl, rfl⟩
    (repeat' (first | exact trivial | exact fun h => h | refine And.intro ?_ ?_ | (intro hb; first | (simp at hb; done) | (simp at hb) | skip) | omega | exact rfl | exact Nat.le_refl _ | (show _ + 1 ≤ 4294967296; omega) | (dsimp only; omega) | (show (_ : Int) ≤ (_ : Int); omega) | (show _ < List.length _; simp only [List.length_set, List.length_append, List.length_take]; omega) | (show wantB _ _ = true; simp; done) | (show wantB _ _ = true; simp; omega) | (show (_ : Bool) = _; simp_all; done) | (exfalso; omega) | refine aRegion_auto (by decide +kernel) ?_ | fail))
    apply exEff
    · refine acall_frame0 rfl (mulA _ a2 b1 r0 _ ?_)
      exact ⟨rfl, rfl⟩
    (repeat' (first | exact trivial | exact fun h => h | refine And.intro ?_ ?_ | (intro hb; first | (simp at hb; done) | (simp at hb) | skip) | omega | exact rfl | exact Nat.le_refl _ | (show _ + 1 ≤ 4294967296; omega) | (dsimp only; omega) | (show (_ : Int) ≤ (_ : Int); omega) | (show _ < List.length _; simp only [List.length_set, List.length_append, List.length_take]; omega) | (show wantB _ _ = true; simp; done) | (show wantB _ _ = true; simp; omega) | (show (_ : Bool) = _; simp_all; done) | (exfalso; omega) | refine aRegion_auto (by decide +kernel) ?_ | fail))
    apply exEff
    · refine acall_frame0 rfl (mulA _ a2 b2 s0 _ ?_)
      exact ⟨rfl, rfl⟩
    generalize fmul a1 b1 = w at *
    generalize fmul a1 b2 = x at *
    generalize fmul a2 b1 = y at *
    generalize fmul a2 b2 = z at *
    have hl4 := nb4 p1 q1 r1 s1
    (apply exEff; focus (repeat' (first | exact ⟨rfl, rfl⟩ | exact trivial | refine And.intro ?_ ?_ | omega | exact Nat.le_refl _ | (show _ + 1 ≤ 4294967296; omega))))
    (repeat' (first | exact trivial | exact fun h => h | refine And.intro ?_ ?_ | (intro hb; first | (simp at hb; done) | (simp at hb) | skip) | omega | exact rfl | exact Nat.le_refl _ | (show _ + 1 ≤ 4294967296; omega) | (dsimp only; omega) | (show (_ : Int) ≤ (_ : Int); omega) | (show _ < List.length _; simp only [List.length_set, List.length_append, List.length_take]; omega) | (show wantB _ _ = true; simp; done) | (show wantB _ _ = true; simp; omega) | (show (_ : Bool) = _; simp_all; done) | (exfalso; omega) | refine aRegion_auto (by decide +kernel) ?_ | fail))
    refine acall_frame [3] [.row F64 [w, x, y, z]] [.ref 0 0 4] rfl (by repeat' (first | exact rfl | exact trivial | refine And.intro ?_ ?_)) ⟨rfl, rfl⟩ rfl (minA _ [w, x, y, z] 3 rfl (by omega) hl4 _ ?_)
    (repeat' (first | exact trivial | exact fun h => h | refine And.intro ?_ ?_ | (intro hb; first | (simp at hb; done) | (simp at hb) | skip) | omega | exact rfl | exact Nat.le_refl _ | (show _ + 1 ≤ 4294967296; omega) | (dsimp only; omega) | (show (_ : Int) ≤ (_ : Int); omega) | (show _ < List.length _; simp only [List.length_set, List.length_append, List.length_take]; omega) | (show wantB _ _ = true; simp; done) | (show wantB _ _ = true; simp; omega) | (show (_ : Bool) = _; simp_all; done) | (exfalso; omega) | refine aRegion_auto (by decide +kernel) ?_ | fail))
    refine acall_frame [3] [.row F64 [w, x, y, z]] [.ref 0 0 4] rfl (by repeat' (first | exact rfl | exact trivial | refine And.intro ?_ ?_)) ⟨rfl, rfl⟩ rfl (maxA _ [w, x, y, z] 3 rfl (by omega) hl4 _ ?_)
    (repeat' (first | exact trivial | exact fun h => h | refine And.intro ?_ ?_ | (intro hb; first | (simp at hb; done) | (simp at hb) | skip) | omega | exact rfl | exact Nat.le_refl _ | (show _ + 1 ≤ 4294967296; omega) | (dsimp only; omega) | (show (_ : Int) ≤ (_ : Int); omega) | (show _ < List.length _; simp only [List.length_set, List.length_append, List.length_take]; omega) | (show wantB _ _ = true; simp; done) | (show wantB _ _ = true; simp; omega) | (show (_ : Bool) = _; simp_all; done) | (exfalso; omega) | refine aRegion_auto (by decide +kernel) ?_ | fail))
    refine acall_frame0 rfl (widerA _ (mmV false [w, x, y, z] 3) (mmV true [w, x, y, z] 3) (mm_nb false hl4 3 (by show 3 < 4; omega)) (mm_nb true hl4 3 (by show 3 < 4; omega)) _ ?_)
    (repeat' (first | exact trivial | exact fun h => h | refine And.intro ?_ ?_ | (intro hb; first | (simp at hb; done) | (simp at hb) | skip) | omega | exact rfl | exact Nat.le_refl _ | (show _ + 1 ≤ 4294967296; omega) | (dsimp only; omega) | (show (_ : Int) ≤ (_ : Int); omega) | (show _ < List.length _; simp only [List.length_set, List.length_append, List.length_take]; omega) | (show wantB _ _ = true; simp; done) | (show wantB _ _ = true; simp; omega) | (show (_ : Bool) = _; simp_all; done) | (exfalso; omega) | refine aRegion_auto (by decide +kernel) ?_ | fail))
    refine ⟨_, _, (REnt.conv [.dat SpT, .keep] _ rfl trivial).trans (REnt.drop ⟨rfl, rfl⟩), ?_⟩
    exact hK
  rw [if_neg h3] at hK
  by_cases h4 : how = 47
  · rw [if_pos h4] at hK
    (repeat' (first | exact trivial | exact fun h => h | refine And.intro ?_ ?_ | (intro hb; first | (simp at hb; done) | (simp at hb) | skip) | omega | exact rfl | exact Nat.le_refl _ | (show _ + 1 ≤ 4294967296; omega) | (dsimp only; omega) | (show (_ : Int) ≤ (_ : Int); omega) | (show _ < List.length _; simp only [List.length_set, List.length_append, List.length_take]; omega) | (show wantB _ _ = true; simp; done) | (show wantB _ _ = true; simp; omega) | (show (_ : Bool) = _; simp_all; done) | (exfalso; omega) | refine aRegion_auto (by decide +kernel) ?_ | fail))
    · rw [zer_t hb] at hK
      refine ⟨_, _, (REnt.conv [.dat SpT, .keep] _ rfl trivial).trans (REnt.drop ⟨rfl, rfl⟩), ?_⟩
      exact hK
    · have hz := zer_f hb
      rw [hz] at hK
      obtain ⟨z1, z2⟩ := no_zero B hz
      obtain ⟨p0, p1⟩ := fdiv_nb A.f1 B.f1 z1
      obtain ⟨q0, q1⟩ := fdiv_nb A.f1 B.f2 z2
      obtain ⟨r0, r1⟩ := fdiv_nb A.f2 B.f1 z1
      obtain ⟨s0, s1⟩ := fdiv_nb A.f2 B.f2 z2
      apply exEff
      · refine acall_frame0 rfl (divA _ a1 b1 p0 _ ?_)
        exact ⟨rfl, rfl⟩
      (repeat' (first | exact trivial | exact fun h => h | refine And.intro ?_ ?_ | (intro hb; first | (simp at hb; done) | (simp at hb) | skip) | omega | exact rfl | exact Nat.le_refl _ | (show _ + 1 ≤ 4294967296; omega) | (dsimp only; omega) | (show (_ : Int) ≤ (_ : Int); omega) | (show _ < List.length _; simp only [List.length_set, List.length_append, List.length_take]; omega) | (show wantB _ _ = true; simp; done) | (show wantB _ _ = true; simp; omega) | (show (_ : Bool) = _; simp_all; done) | (exfalso; omega) | refine aRegion_auto (by decide +kernel) ?_ | fail))
      apply exEff
      · refine acall_frame0 rfl (divA _ a1 b2 q0 _ ?_)
        exact ⟨rfl, rfl⟩
      (repeat' (first | exact trivial | exact fun h => h | refine And.intro ?_ ?_ | (intro hb; first | (simp at hb; done) | (simp at hb) | skip) | omega | exact rfl | exact Nat.le_refl _ | (show _ + 1 ≤ 4294967296; omega) | (dsimp only; omega) | (show (_ : Int) ≤ (_ : Int); omega) | (show _ < List.length _; simp only [List.length_set, List.length_append, List.length_take]; omega) | (show wantB _ _ = true; simp; done) | (show wantB _ _ = true; simp; omega) | (show (_ : Bool) = _; simp_all; done) | (exfalso; omega) | refine aRegion_auto (by decide +kernel) ?_ | fail))
      apply exEff
      · refine acall_frame0 rfl (divA _ a2 b1 r0 _ ?_)
        exact ⟨rfl, rfl⟩
      (repeat' (first | exact trivial | exact fun h => h | refine And.intro ?_ ?_ | (intro hb; first | (simp at hb; done) | (simp at hb) | skip) | omega | exact rfl | exact Nat.le_refl _ | (show _ + 1 ≤ 4294967296; omega) | (dsimp only; omega) | (show (_ : Int) ≤ (_ : Int); omega) | (show _ < List.length _; simp only [List.length_set, List.length_append, List.length_take]; omega) | (show wantB _ _ = true; simp; done) | (show wantB _ _ = true; simp; omega) | (show (_ : Bool) = _; simp_all; done) | (exfalso; omega) | refine aRegion_auto (by decide +kernel) ?_ | fail))
      apply exEff
      · refine acall_frame0 rfl (divA _ a2 b2 s0 _ ?_)
        exact ⟨rfl, rfl⟩
      generalize fdiv a1 b1 = w at *
      generalize fdiv a1 b2 = x at *
      generalize fdiv a2 b1 = y at *
      generalize fdiv a2 b2 = z at *
      have hl4 := nb4 p1 q1 r1 s1
      (apply exEff; focus (repeat' (first | exact ⟨rfl, rfl⟩ | exact trivial | refine And.intro ?_ ?_ | omega | exact Nat.le_refl _ | (show _ + 1 ≤ 4294967296; omega))))
      (repeat' (first | exact trivial | exact fun h => h | refine And.intro ?_ ?_ | (intro hb; first | (simp at hb; done) | (simp at hb) | skip) | omega | exact rfl | exact Nat.le_refl _ | (show _ + 1 ≤ 4294967296; omega) | (dsimp only; omega) | (show (_ : Int) ≤ (_ : Int); omega) | (show _ < List.length _; simp only [List.length_set, List.length_append, List.length_take]; omega) | (show wantB _ _ = true; simp; done) | (show wantB _ _ = true; simp; omega) | (show (_ : Bool) = _; simp_all; done) | (exfalso; omega) | refine aRegion_auto (by decide +kernel) ?_ | fail))
      refine acall_frame [3] [.row F64 [w, x, y, z]] [.ref 0 0 4] rfl (by repeat' (first | exact rfl | exact trivial | refine And.intro ?_ ?_)) ⟨rfl, rfl⟩ rfl (minA _ [w, x, y, z] 3 rfl (by omega) hl4 _ ?_)
      (repeat' (first | exact trivial | exact fun h => h | refine And.intro ?_ ?_ | (intro hb; first | (simp at hb; done) | (simp at hb) | skip) | omega | exact rfl | exact Nat.le_refl _ | (show _ + 1 ≤ 4294967296; omega) | (dsimp only; omega) | (show (_ : Int) ≤ (_ : Int); omega) | (show _ < List.length _; simp only [List.length_set, List.length_append, List.length_take]; omega) | (show wantB _ _ = true; simp; done) | (show wantB _ _ = true; simp; omega) | (show (_ : Bool) = _; simp_all; done) | (exfalso; omega) | refine aRegion_auto (by decide +kernel) ?_ | fail))
      refine acall_frame [3] [.row F64 [w, x, y, z]] [.ref 0 0 4] rfl (by repeat' (first | exact rfl | exact trivial | refine And.intro ?_ ?_)) ⟨rfl, rfl⟩ rfl (maxA _ [w, x, y, z] 3 rfl (by omega) hl4 _ ?_)
      (repeat' (first | exact trivial | exact fun h => h | refine And.intro ?_ ?_ | (intro hb; first | (simp at hb; done) | (simp at hb) | skip) | omega | exact rfl | exact Nat.le_refl _ | (show _ + 1 ≤ 4294967296; omega) | (dsimp only; omega) | (show (_ : Int) ≤ (_ : Int); omega) | (show _ < List.length _; simp only [List.length_set, List.length_append, List.length_take]; omega) | (show wantB _ _ = true; simp; done) | (show wantB _ _ = true; simp; omega) | (show (_ : Bool) = _; simp_all; done) | (exfalso; omega) | refine aRegion_auto (by decide +kernel) ?_ | fail))
      refine acall_frame0 rfl (widerA _ (mmV false [w, x, y, z] 3) (mmV true [w, x, y, z] 3) (mm_nb false hl4 3 (by show 3 < 4; omega)) (mm_nb true hl4 3 (by show 3 < 4; omega)) _ ?_)
      (repeat' (first | exact trivial | exact fun h => h | refine And.intro ?_ ?_ | (intro hb; first | (simp at hb; done) | (simp at hb) | skip) | omega | exact rfl | exact Nat.le_refl _ | (show _ + 1 ≤ 4294967296; omega) | (dsimp only; omega) | (show (_ : Int) ≤ (_ : Int); omega) | (show _ < List.length _; simp only [List.length_set, List.length_append, List.length_take]; omega) | (show wantB _ _ = true; simp; done) | (show wantB _ _ = true; simp; omega) | (show (_ : Bool) = _; simp_all; done) | (exfalso; omega) | refine aRegion_auto (by decide +kernel) ?_ | fail))
      refine ⟨_, _, (REnt.conv [.dat SpT, .keep] _ rfl trivial).trans (REnt.drop ⟨rfl, rfl⟩), ?_⟩
      exact hK
  · rw [if_neg h4] at hK
    (repeat' (first | exact trivial | exact fun h => h | refine And.intro ?_ ?_ | (intro hb; first | (simp at hb; done) | (simp at hb) | skip) | omega | exact rfl | exact Nat.le_refl _ | (show _ + 1 ≤ 4294967296; omega) | (dsimp only; omega) | (show (_ : Int) ≤ (_ : Int); omega) | (show _ < List.length _; simp only [List.length_set, List.length_append, List.length_take]; omega) | (show wantB _ _ = true; simp; done) | (show wantB _ _ = true; simp; omega) | (show (_ : Bool) = _; simp_all; done) | (exfalso; omega) | refine aRegion_auto (by decide +kernel) ?_ | fail))
    refine ⟨_, _, (REnt.conv [.dat SpT, .keep] _ rfl trivial).trans (REnt.drop ⟨rfl, rfl⟩), ?_⟩
    exact hK
end Go.Proofs.Ytlmmhmoihmlljaa
/-
  Spans: what two give, as the document has it, walked.
-/
namespace Go.Proofs.Ytlmmhmoihmlljaa
open Go Go.Ab Go.RowKit
set_option maxRecDepth 100000
/-- branches that join at a cut -/
structure BxA {α : Type} (I c : α → Prop) : Prop where
  out : ∀ x, I x → c x
theorem mergeA {α : Type} (I : α → Prop) {c : α → Prop} {g : Prop} (f : BxA I c → g) (h : ∀ x, I x → c x) : g := f ⟨h⟩
set_option maxHeartbeats 4000000 in
theorem joinOfA (G : List (Nat × Value)) (a b : Nat × Nat) (how : Int) (hla : a.1 < 18446744073709551616 ∧ a.2 < 18446744073709551616) (hlb : b.1 < 18446744073709551616 ∧ b.2 < 18446744073709551616) (K : AV → List AO → Prop) (hK : K (.tup [.fz SpT (joinD a b how).1, .fz .bool (joinD a b how).2]) []) :
    ACall Try.prog G 22 [.fz SpT a, .fz SpT b, .fz (.int .u8) how] [] K := by
  obtain ⟨a1, a2⟩ := a
  obtain ⟨b1, b2⟩ := b
  have hK0 := hK
  unfold joinD at hK
  refine acall_mk (E := envCut G 153 0 [18]) (envCutOk _ _ _ _) Try.func22 rfl rfl rfl rfl rfl ?_
  apply mergeA (fun l : List Nat => (1 ≤ l.length ∧ l.length ≤ 4) ∧ (∀ i, i < l.length → nb (l.getD i 0)) ∧ joinD (a1, a2) (b1, b2) how = widD (loV l (l.length - 1)) (hiV l (l.length - 1)))
  · intro hc
    (repeat' (first | exact trivial | exact fun h => h | refine And.intro ?_ ?_ | (intro hb; first | (simp at hb; done) | (simp at hb) | skip) | omega | exact rfl | exact Nat.le_refl _ | (show _ + 1 ≤ 4294967296; omega) | (dsimp only; omega) | (show (_ : Int) ≤ (_ : Int); omega) | (show _ < List.length _; simp only [List.length_set, List.length_append, List.length_take]; omega) | (show wantB _ _ = true; simp; done) | (show wantB _ _ = true; simp; omega) | (show (_ : Bool) = _; simp_all; done) | (exfalso; omega) | refine aRegion_auto (by decide +kernel) ?_ | fail))
    refine acall_conv [.dat SpT] _ _ _ rfl trivial (acall_frame0 rfl (isSpanA _ (a1, a2) _ ?_))
    (repeat' (first | exact trivial | exact fun h => h | refine And.intro ?_ ?_ | (intro hb; first | (simp at hb; done) | (simp at hb) | skip) | omega | exact rfl | exact Nat.le_refl _ | (show _ + 1 ≤ 4294967296; omega) | (dsimp only; omega) | (show (_ : Int) ≤ (_ : Int); omega) | (show _ < List.length _; simp only [List.length_set, List.length_append, List.length_take]; omega) | (show wantB _ _ = true; simp; done) | (show wantB _ _ = true; simp; omega) | (show (_ : Bool) = _; simp_all; done) | (exfalso; omega) | refine aRegion_auto (by decide +kernel) ?_ | fail))
    refine acall_conv [.dat SpT] _ _ _ rfl trivial (acall_frame0 rfl (isSpanA _ (b1, b2) _ ?_))
    cases hs : soundB (a1, a2)
    · rw [hs] at hK
      (repeat' (first | exact trivial | exact fun h => h | refine And.intro ?_ ?_ | (intro hb; first | (simp at hb; done) | (simp at hb) | skip) | omega | exact rfl | exact Nat.le_refl _ | (show _ + 1 ≤ 4294967296; omega) | (dsimp only; omega) | (show (_ : Int) ≤ (_ : Int); omega) | (show _ < List.length _; simp only [List.length_set, List.length_append, List.length_take]; omega) | (show wantB _ _ = true; simp; done) | (show wantB _ _ = true; simp; omega) | (show (_ : Bool) = _; simp_all; done) | (exfalso; omega) | refine aRegion_auto (by decide +kernel) ?_ | fail))
      refine ⟨_, _, (REnt.conv [.dat SpT, .keep] _ rfl trivial).trans (REnt.drop ⟨rfl, rfl⟩), ?_⟩
      exact hK
    cases hs2 : soundB (b1, b2)
    · rw [hs, hs2] at hK
      (repeat' (first | exact trivial | exact fun h => h | refine And.intro ?_ ?_ | (intro hb; first | (simp at hb; done) | (simp at hb) | skip) | omega | exact rfl | exact Nat.le_refl _ | (show _ + 1 ≤ 4294967296; omega) | (dsimp only; omega) | (show (_ : Int) ≤ (_ : Int); omega) | (show _ < List.length _; simp only [List.length_set, List.length_append, List.length_take]; omega) | (show wantB _ _ = true; simp; done) | (show wantB _ _ = true; simp; omega) | (show (_ : Bool) = _; simp_all; done) | (exfalso; omega) | refine aRegion_auto (by decide +kernel) ?_ | fail))
      refine ⟨_, _, (REnt.conv [.dat SpT, .keep] _ rfl trivial).trans (REnt.drop ⟨rfl, rfl⟩), ?_⟩
      exact hK
    rw [hs, hs2, if_pos (show (true && true) = true from rfl)] at hK
    have hj : joinD (a1, a2) (b1, b2) how = (if how = 43 then widD (loV [fadd a1 b1, fadd a2 b2] 1) (hiV [fadd a1 b1, fadd a2 b2] 1) else if how = 45 then widD (loV [fsub a1 b2, fsub a2 b1] 1) (hiV [fsub a1 b2, fsub a2 b1] 1)
      else if how = 42 then widD (loV [fmul a1 b1, fmul a1 b2, fmul a2 b1, fmul a2 b2] 3) (hiV [fmul a1 b1, fmul a1 b2, fmul a2 b1, fmul a2 b2] 3)
      else if how = 47 then (if (leB b1 0 && geB b2 0) = true then ((0, 0), false) else widD (loV [fdiv a1 b1, fdiv a1 b2, fdiv a2 b1, fdiv a2 b2] 3) (hiV [fdiv a1 b1, fdiv a1 b2, fdiv a2 b1, fdiv a2 b2] 3))
      else ((0, 0), false)) := by
      unfold joinD
      rw [hs, hs2, if_pos (show (true && true) = true from rfl)]
    have A := snd_of (a := (a1, a2)) hla.1 hla.2 hs
    have B := snd_of (a := (b1, b2)) hlb.1 hlb.2 hs2
    clear hs hs2
    by_cases h1 : how = 43
    · rw [if_pos h1] at hj
      obtain ⟨p0, p1, p2⟩ := fadd_nb A.f1 B.f1
      obtain ⟨q0, q1, q2⟩ := fadd_nb A.f2 B.f2
      have p0' := some_iff p0
      have q0' := some_iff q0
      (repeat' (first | exact trivial | exact fun h => h | refine And.intro ?_ ?_ | (intro hb; first | (simp at hb; done) | (simp at hb) | skip) | omega | exact rfl | exact Nat.le_refl _ | (show _ + 1 ≤ 4294967296; omega) | (dsimp only; omega) | (show (_ : Int) ≤ (_ : Int); omega) | (show _ < List.length _; simp only [List.length_set, List.length_append, List.length_take]; omega) | (show wantB _ _ = true; simp; done) | (show wantB _ _ = true; simp; omega) | (show (_ : Bool) = _; simp_all; done) | (exfalso; omega) | refine aRegion_auto (by decide +kernel) ?_ | fail))
      all_goals first | exact p0' | exact q0' | skip
      · show (2 : Nat) ≤ 4294967296
        omega
      obtain ⟨l, hl⟩ : ∃ l, l = [fadd a1 b1, fadd a2 b2] := ⟨_, rfl⟩
      refine ⟨[(6, .ptr 2 0), (10, .ref 3 0 l.length)], [.box [.fz F64 a1, .fz F64 a2], .box [.fz F64 b1, .fz F64 b2], .box [.fz F64 (0 : Nat), .fz F64 (0 : Nat)], .row F64 l], Ent.ren [0, 1, 2, 4] rfl ?_ ?_, hc.out l ⟨by rw [hl]; exact ⟨by show 1 ≤ 2; omega, by show 2 ≤ 4; omega⟩, by rw [hl]; exact nb2 p1 q1, by rw [hl]; exact hj⟩⟩
      · (repeat' (first | exact trivial | exact rfl | refine And.intro ?_ ?_))
        exact congrArg (fun x => some (AO.row F64 x)) hl.symm
      · (repeat' (first | exact trivial | exact rfl | refine And.intro ?_ ?_))
        exact congrArg (AV.ref 4 0) (show 2 = l.length by rw [hl]; rfl)
    rw [if_neg h1] at hj
    by_cases h2 : how = 45
    · rw [if_pos h2] at hj
      obtain ⟨p0, p1, p2⟩ := fsub_nb A.f1 B.f2 B.n2.1
      obtain ⟨q0, q1, q2⟩ := fsub_nb A.f2 B.f1 B.n1.1
      have p0' := some_iff p0
      have q0' := some_iff q0
      (repeat' (first | exact trivial | exact fun h => h | refine And.intro ?_ ?_ | (intro hb; first | (simp at hb; done) | (simp at hb) | skip) | omega | exact rfl | exact Nat.le_refl _ | (show _ + 1 ≤ 4294967296; omega) | (dsimp only; omega) | (show (_ : Int) ≤ (_ : Int); omega) | (show _ < List.length _; simp only [List.length_set, List.length_append, List.length_take]; omega) | (show wantB _ _ = true; simp; done) | (show wantB _ _ = true; simp; omega) | (show (_ : Bool) = _; simp_all; done) | (exfalso; omega) | refine aRegion_auto (by decide +kernel) ?_ | fail))
      all_goals first | exact p0' | exact q0' | skip
      · show (2 : Nat) ≤ 4294967296
        omega
      obtain ⟨l, hl⟩ : ∃ l, l = [fsub a1 b2, fsub a2 b1] := ⟨_, rfl⟩
      refine ⟨[(6, .ptr 2 0), (10, .ref 3 0 l.length)], [.box [.fz F64 a1, .fz F64 a2], .box [.fz F64 b1, .fz F64 b2], .box [.fz F64 (0 : Nat), .fz F64 (0 : Nat)], .row F64 l], Ent.ren [0, 1, 2, 4] rfl ?_ ?_, hc.out l ⟨by rw [hl]; exact ⟨by show 1 ≤ 2; omega, by show 2 ≤ 4; omega⟩, by rw [hl]; exact nb2 p1 q1, by rw [hl]; exact hj⟩⟩
      · (repeat' (first | exact trivial | exact rfl | refine And.intro ?_ ?_))
        exact congrArg (fun x => some (AO.row F64 x)) hl.symm
      · (repeat' (first | exact trivial | exact rfl | refine And.intro ?_ ?_))
        exact congrArg (AV.ref 4 0) (show 2 = l.length by rw [hl]; rfl)
    rw [if_neg h2] at hj
    by_cases h3 : how = 42
    · rw [if_pos h3] at hj
      obtain ⟨p0, p1⟩ := fmul_nb A.f1 B.f1
      obtain ⟨q0, q1⟩ := fmul_nb A.f1 B.f2
      obtain ⟨r0, r1⟩ := fmul_nb A.f2 B.f1
      obtain ⟨s0, s1⟩ := fmul_nb A.f2 B.f2
      have p0' := some_iff p0
      have q0' := some_iff q0
      have r0' := some_iff r0
      have s0' := some_iff s0
      (repeat' (first | exact trivial | exact fun h => h | refine And.intro ?_ ?_ | (intro hb; first | (simp at hb; done) | (simp at hb) | skip) | omega | exact rfl | exact Nat.le_refl _ | (show _ + 1 ≤ 4294967296; omega) | (dsimp only; omega) | (show (_ : Int) ≤ (_ : Int); omega) | (show _ < List.length _; simp only [List.length_set, List.length_append, List.length_take]; omega) | (show wantB _ _ = true; simp; done) | (show wantB _ _ = true; simp; omega) | (show (_ : Bool) = _; simp_all; done) | (exfalso; omega) | refine aRegion_auto (by decide +kernel) ?_ | fail))
      all_goals first | exact p0' | exact q0' | exact r0' | exact s0' | skip
      · show (4 : Nat) ≤ 4294967296
        omega
      obtain ⟨l, hl⟩ : ∃ l, l = [fmul a1 b1, fmul a1 b2, fmul a2 b1, fmul a2 b2] := ⟨_, rfl⟩
      refine ⟨[(6, .ptr 2 0), (10, .ref 3 0 l.length)], [.box [.fz F64 a1, .fz F64 a2], .box [.fz F64 b1, .fz F64 b2], .box [.fz F64 (0 : Nat), .fz F64 (0 : Nat)], .row F64 l], Ent.ren [0, 1, 2, 4] rfl ?_ ?_, hc.out l ⟨by rw [hl]; exact ⟨by show 1 ≤ 4; omega, by show 4 ≤ 4; omega⟩, by rw [hl]; exact nb4 p1 q1 r1 s1, by rw [hl]; exact hj⟩⟩
      · (repeat' (first | exact trivial | exact rfl | refine And.intro ?_ ?_))
        exact congrArg (fun x => some (AO.row F64 x)) hl.symm
      · (repeat' (first | exact trivial | exact rfl | refine And.intro ?_ ?_))
        exact congrArg (AV.ref 4 0) (show 4 = l.length by rw [hl]; rfl)
    rw [if_neg h3] at hj
    by_cases h4 : how = 47
    · rw [if_pos h4] at hj
      cases hz : leB b1 0 && geB b2 0
      · rw [hz] at hj
        obtain ⟨z1, z2⟩ := no_zero B hz
        obtain ⟨p0, p1⟩ := fdiv_nb A.f1 B.f1 z1
        obtain ⟨q0, q1⟩ := fdiv_nb A.f1 B.f2 z2
        obtain ⟨r0, r1⟩ := fdiv_nb A.f2 B.f1 z1
        obtain ⟨s0, s1⟩ := fdiv_nb A.f2 B.f2 z2
        have p0' := some_iff p0
        have q0' := some_iff q0
        have r0' := some_iff r0
        have s0' := some_iff s0
        (repeat' (first | exact trivial | exact fun h => h | refine And.intro ?_ ?_ | (intro hb; first | (simp at hb; done) | (simp at hb) | skip) | omega | exact rfl | exact Nat.le_refl _ | (show _ + 1 ≤ 4294967296; omega) | (dsimp only; omega) | (show (_ : Int) ≤ (_ : Int); omega) | (show _ < List.length _; simp only [List.length_set, List.length_append, List.length_take]; omega) | (show wantB _ _ = true; simp; done) | (show wantB _ _ = true; simp; omega) | (show (_ : Bool) = _; simp_all; done) | (exfalso; omega) | refine aRegion_auto (by decide +kernel) ?_ | fail))
        · rw [zer_t hb] at hz; cases hz
        all_goals first | exact p0' | exact q0' | exact r0' | exact s0' | skip
        · show (4 : Nat) ≤ 4294967296
          omega
        obtain ⟨l, hl⟩ : ∃ l, l = [fdiv a1 b1, fdiv a1 b2, fdiv a2 b1, fdiv a2 b2] := ⟨_, rfl⟩
        refine ⟨[(6, .ptr 2 0), (10, .ref 3 0 l.length)], [.box [.fz F64 a1, .fz F64 a2], .box [.fz F64 b1, .fz F64 b2], .box [.fz F64 (0 : Nat), .fz F64 (0 : Nat)], .row F64 l], Ent.ren [0, 1, 2, 4] rfl ?_ ?_, hc.out l ⟨by rw [hl]; exact ⟨by show 1 ≤ 4; omega, by show 4 ≤ 4; omega⟩, by rw [hl]; exact nb4 p1 q1 r1 s1, by rw [hl]; exact hj⟩⟩
        · (repeat' (first | exact trivial | exact rfl | refine And.intro ?_ ?_))
          exact congrArg (fun x => some (AO.row F64 x)) hl.symm
        · (repeat' (first | exact trivial | exact rfl | refine And.intro ?_ ?_))
          exact congrArg (AV.ref 4 0) (show 4 = l.length by rw [hl]; rfl)
      · rw [hz] at hj
        have hK1 : K (.tup [.fz SpT (0, 0), .fz .bool false]) [] := by rw [hj] at hK0; exact hK0
        (repeat' (first | exact trivial | exact fun h => h | refine And.intro ?_ ?_ | (intro hb; first | (simp at hb; done) | (simp at hb) | skip) | omega | exact rfl | exact Nat.le_refl _ | (show _ + 1 ≤ 4294967296; omega) | (dsimp only; omega) | (show (_ : Int) ≤ (_ : Int); omega) | (show _ < List.length _; simp only [List.length_set, List.length_append, List.length_take]; omega) | (show wantB _ _ = true; simp; done) | (show wantB _ _ = true; simp; omega) | (show (_ : Bool) = _; simp_all; done) | (exfalso; omega) | refine aRegion_auto (by decide +kernel) ?_ | fail))
        · refine ⟨_, _, (REnt.conv [.dat SpT, .keep] _ rfl trivial).trans (REnt.drop ⟨rfl, rfl⟩), ?_⟩
          exact hK1
        all_goals exact absurd (hz.symm.trans (zer_f hb)) (by decide)
    · rw [if_neg h4] at hj
      have hK1 : K (.tup [.fz SpT (0, 0), .fz .bool false]) [] := by rw [hj] at hK0; exact hK0
      (repeat' (first | exact trivial | exact fun h => h | refine And.intro ?_ ?_ | (intro hb; first | (simp at hb; done) | (simp at hb) | skip) | omega | exact rfl | exact Nat.le_refl _ | (show _ + 1 ≤ 4294967296; omega) | (dsimp only; omega) | (show (_ : Int) ≤ (_ : Int); omega) | (show _ < List.length _; simp only [List.length_set, List.length_append, List.length_take]; omega) | (show wantB _ _ = true; simp; done) | (show wantB _ _ = true; simp; omega) | (show (_ : Bool) = _; simp_all; done) | (exfalso; omega) | refine aRegion_auto (by decide +kernel) ?_ | fail))
      refine ⟨_, _, (REnt.conv [.dat SpT, .keep] _ rfl trivial).trans (REnt.drop ⟨rfl, rfl⟩), ?_⟩
      exact hK1
  · intro l ⟨⟨l1, l4⟩, hl, hj⟩
    rw [hj] at hK0
    have hl0 := hl 0 l1
    (repeat' (first | exact trivial | exact fun h => h | refine And.intro ?_ ?_ | (intro hb; first | (simp at hb; done) | (simp at hb) | skip) | omega | exact rfl | exact Nat.le_refl _ | (show _ + 1 ≤ 4294967296; omega) | (dsimp only; omega) | (show (_ : Int) ≤ (_ : Int); omega) | (show _ < List.length _; simp only [List.length_set, List.length_append, List.length_take]; omega) | (show wantB _ _ = true; simp; done) | (show wantB _ _ = true; simp; omega) | (show (_ : Bool) = _; simp_all; done) | (exfalso; omega) | refine aRegion_auto (by decide +kernel) ?_ | fail))
    refine ⟨Nat, fun k => ⟨[(6, .ptr 2 0), (10, .ref 3 0 l.length), (11, .fz F64 (loV l k)), (12, .fz F64 (hiV l k)), (13, .fz int ((k : Int) + 1))], [.box [.fz F64 a1, .fz F64 a2], .box [.fz F64 b1, .fz F64 b2], .box [.fz F64 (0 : Nat), .fz F64 (0 : Nat)], .row F64 l]⟩, fun k => k + 1 ≤ l.length, fun k => l.length - k, 0, l1, Ent.sub rfl ?_, ?_⟩
    · (repeat' (first | exact trivial | exact rfl | refine And.intro ?_ ?_))
    intro k hk
    have hk : k + 1 ≤ l.length := hk
    show awp _ _ _ ⟨[(6, .ptr 2 0), (10, .ref 3 0 l.length), (11, .fz F64 (loV l k)), (12, .fz F64 (hiV l k)), (13, .fz int ((k : Int) + 1))], [.box [.fz F64 a1, .fz F64 a2], .box [.fz F64 b1, .fz F64 b2], .box [.fz F64 (0 : Nat), .fz F64 (0 : Nat)], .row F64 l]⟩
    by_cases hk2 : k + 1 < l.length
    · have gq : l[k + 1]?.getD (F64 : Ty).dft = l.getD (k + 1) 0 := rfl
      have gl : List.getD l (0 + Int.toNat ((k : Int) + 1)) (F64 : Ty).dft = l.getD (k + 1) 0 := by
        rw [Nat.zero_add, show Int.toNat ((k : Int) + 1) = k + 1 by omega]; rfl
      have eL1 : FloatKind.f64.format.order (l[k + 1]?.getD (F64 : Ty).dft) (loV l k) = some Ordering.lt → List.getD l (0 + Int.toNat ((k : Int) + 1)) (F64 : Ty).dft = loV l (k + 1) := fun h => by
        rw [gl, loV, if_pos (by rw [← gq, h]; rfl)]
      have eL0 : ¬FloatKind.f64.format.order (l[k + 1]?.getD (F64 : Ty).dft) (loV l k) = some Ordering.lt → loV l k = loV l (k + 1) := fun h => by
        rw [loV, if_neg (fun c => h (by rw [gq]; simpa using c))]
      have eH1 : FloatKind.f64.format.order (l[k + 1]?.getD (F64 : Ty).dft) (hiV l k) = some Ordering.gt → List.getD l (0 + Int.toNat ((k : Int) + 1)) (F64 : Ty).dft = hiV l (k + 1) := fun h => by
        rw [gl, hiV, if_pos (by rw [← gq, h]; rfl)]
      have eH0 : ¬FloatKind.f64.format.order (l[k + 1]?.getD (F64 : Ty).dft) (hiV l k) = some Ordering.gt → hiV l k = hiV l (k + 1) := fun h => by
        rw [hiV, if_neg (fun c => h (by rw [gq]; simpa using c))]
      (repeat' (first | exact trivial | exact fun h => h | refine And.intro ?_ ?_ | (intro hb; first | (simp at hb; done) | (simp at hb) | skip) | omega | exact rfl | exact Nat.le_refl _ | (show _ + 1 ≤ 4294967296; omega) | (dsimp only; omega) | (show (_ : Int) ≤ (_ : Int); omega) | (show _ < List.length _; simp only [List.length_set, List.length_append, List.length_take]; omega) | (show wantB _ _ = true; simp; done) | (show wantB _ _ = true; simp; omega) | (show (_ : Bool) = _; simp_all; done) | (exfalso; omega) | refine aRegion_auto (by decide +kernel) ?_ | fail))
      all_goals rename_i hx hy
      · refine ⟨k + 1, by show k + 1 + 1 ≤ l.length; omega, by show l.length - (k + 1) < l.length - k; omega, Ent.sub rfl ?_⟩
        (repeat' (first | exact trivial | exact rfl | refine And.intro ?_ ?_))
        · exact congrArg (AV.fz F64) (eL1 hy)
        · exact congrArg (AV.fz F64) (eH1 hb)
      · refine ⟨k + 1, by show k + 1 + 1 ≤ l.length; omega, by show l.length - (k + 1) < l.length - k; omega, Ent.sub rfl ?_⟩
        (repeat' (first | exact trivial | exact rfl | refine And.intro ?_ ?_))
        · exact congrArg (AV.fz F64) (eL1 hy)
        · exact congrArg (AV.fz F64) (eH0 hb)
      · refine ⟨k + 1, by show k + 1 + 1 ≤ l.length; omega, by show l.length - (k + 1) < l.length - k; omega, Ent.sub rfl ?_⟩
        (repeat' (first | exact trivial | exact rfl | refine And.intro ?_ ?_))
        · exact congrArg (AV.fz F64) (eL0 hy)
        · exact congrArg (AV.fz F64) (eH1 hb)
      · refine ⟨k + 1, by show k + 1 + 1 ≤ l.length; omega, by show l.length - (k + 1) < l.length - k; omega, Ent.sub rfl ?_⟩
        (repeat' (first | exact trivial | exact rfl | refine And.intro ?_ ?_))
        · exact congrArg (AV.fz F64) (eL0 hy)
        · exact congrArg (AV.fz F64) (eH0 hb)
    · have hk3 : k = l.length - 1 := by omega
      obtain ⟨⟨m1, m2, _⟩, ⟨n1, n2, _⟩, _, _⟩ := mm_keys hl k hk
      (repeat' (first | exact trivial | exact fun h => h | refine And.intro ?_ ?_ | (intro hb; first | (simp at hb; done) | (simp at hb) | skip) | omega | exact rfl | exact Nat.le_refl _ | (show _ + 1 ≤ 4294967296; omega) | (dsimp only; omega) | (show (_ : Int) ≤ (_ : Int); omega) | (show _ < List.length _; simp only [List.length_set, List.length_append, List.length_take]; omega) | (show wantB _ _ = true; simp; done) | (show wantB _ _ = true; simp; omega) | (show (_ : Bool) = _; simp_all; done) | (exfalso; omega) | refine aRegion_auto (by decide +kernel) ?_ | fail))
      refine acall_frame0 rfl (widerD _ (loV l k) (hiV l k) m2 n2 _ ?_)
      rw [← hk3] at hK0
      (repeat' (first | exact trivial | exact fun h => h | refine And.intro ?_ ?_ | (intro hb; first | (simp at hb; done) | (simp at hb) | skip) | omega | exact rfl | exact Nat.le_refl _ | (show _ + 1 ≤ 4294967296; omega) | (dsimp only; omega) | (show (_ : Int) ≤ (_ : Int); omega) | (show _ < List.length _; simp only [List.length_set, List.length_append, List.length_take]; omega) | (show wantB _ _ = true; simp; done) | (show wantB _ _ = true; simp; omega) | (show (_ : Bool) = _; simp_all; done) | (exfalso; omega) | refine aRegion_auto (by decide +kernel) ?_ | fail))
      refine ⟨_, _, (REnt.conv [.dat SpT, .keep] _ rfl trivial).trans (REnt.drop ⟨rfl, rfl⟩), ?_⟩
      exact hK0
end Go.Proofs.Ytlmmhmoihmlljaa
/-
  Spans: roots, plainly.
-/
namespace Go.Proofs.Ytlmmhmoihmlljaa
open Go Go.Ab Go.RowKit Ieee
set_option maxRecDepth 100000
theorem rung_fin {m : Nat} {p : Int} (h : p + m.log2 ≤ 1000) : Fp.rung m p < Fp.INF := by
  unfold Fp.rung
  by_cases hm : m = 0
  · rw [if_pos hm]; decide
  rw [if_neg hm]
  obtain ⟨l, hl⟩ : ∃ l, l = max (p + m.log2 - 52) (-1074) := ⟨_, rfl⟩
  rw [← hl]
  have hR : Fp.R (m <<< (p - l).toNat) (l - p).toNat ≤ 2 ^ 53 := by
    refine Fp.R_hi ?_
    rw [Nat.shiftLeft_eq, ← Nat.pow_add]
    have h1 := Fp.lt_log m
    have hp : 0 < 2 ^ (p - l).toNat := Nat.pow_pos (by omega)
    refine Nat.lt_of_lt_of_le (Nat.mul_lt_mul_of_pos_right h1 hp) ?_
    rw [← Nat.pow_add]
    exact Nat.pow_le_pow_right (by omega) (by omega)
  have hA : (l + 1074).toNat ≤ 2022 := by omega
  have h2 := Nat.mul_le_mul_right 4503599627370496 hA
  have h3 : 2022 * 4503599627370496 + 2 ^ 53 < Fp.INF := by decide
  refine Nat.lt_of_le_of_lt (Nat.min_le_left _ _) ?_
  exact Nat.lt_of_le_of_lt (Nat.add_le_add h2 hR) h3
theorem near_fin {s : Bool} {m : Nat} {p : Int} (h : p + m.log2 ≤ 1000) : Fp.fin (double.nearest s m p) := by
  rw [Fp.nearest_eq]
  unfold Fp.fin
  rw [(Fp.word_rg (Fp.rung_le m p)).1]
  exact rung_fin h
theorem read_bd2 {w : Nat} (h : Fp.fin w) : ∃ m p, double.read w = .number (Fp.ng w) m p ∧ m < 2 ^ 53 ∧ p ≤ 971 ∧ (m = 0 → Fp.rg w = 0) := by
  rw [read_rd]
  unfold rd
  have h' : Fp.rg w < Fp.INF := h
  by_cases h1 : Fp.rg w < Fp.BB
  · rw [if_pos h1]
    exact ⟨_, _, rfl, Nat.lt_trans h1 (by decide), by omega, fun h => h⟩
  · rw [if_neg h1, if_pos h']
    have hm := Nat.mod_lt (Fp.rg w) (show 0 < Fp.BB by decide)
    have hd : Fp.rg w / Fp.BB < 2047 := (Nat.div_lt_iff_lt_mul (by decide)).2 h'
    refine ⟨_, _, rfl, ?_, ?_, ?_⟩
    · have : (2 : Nat) ^ 53 = Fp.BB + Fp.BB := by decide
      rw [this]
      exact Nat.add_lt_add_left hm _
    · generalize Fp.rg w / Fp.BB = e at *
      omega
    · intro h0
      have : 0 < Fp.BB := by decide
      omega
theorem root_lt (n : Nat) : ∀ t root, Datum.rootFrom n t root < root + 2 ^ t
  | 0, root => by unfold Datum.rootFrom; omega
  | t + 1, root => by
    unfold Datum.rootFrom
    have h1 := root_lt n t (root + 1 <<< t)
    have h2 := root_lt n t root
    rw [Nat.one_shiftLeft] at h1
    have hp : 2 ^ (t + 1) = 2 ^ t + 2 ^ t := by rw [Nat.pow_succ]; omega
    have h0 : 0 < 2 ^ t := Nat.pow_pos (by omega)
    simp only [Nat.one_shiftLeft]
    split <;> omega
def fsqrt (x : Nat) : Nat := (double.sqrt x).getD 0
theorem log2_lt {m k : Nat} (h : m < 2 ^ k) (hk : 0 < k) : m.log2 < k := by
  by_cases h0 : m = 0
  · subst h0; simpa using hk
  · exact (Nat.log2_lt h0).2 h
theorem fsqrt_nb {x : Nat} (hx : Fp.fin x) (h0 : 0 ≤ Fp.key x) : double.sqrt x = some (fsqrt x) ∧ nb (fsqrt x) ∧ Fp.fin (fsqrt x) := by
  obtain ⟨m, i, e, m1, i1, hz⟩ := read_bd2 hx
  have key : ∃ w, double.sqrt x = some w ∧ nb w ∧ Fp.fin w := by
    unfold Format.sqrt
    rw [e]
    unfold Datum.root
    simp only
    by_cases hm : m = 0
    · rw [if_pos hm, hm]
      refine ⟨_, rfl, near_nb _ _ _, ?_⟩
      show Fp.fin (double.nearest _ 0 i)
      rw [Fp.nearest_eq]
      unfold Fp.fin
      rw [(Fp.word_rg (Fp.rung_le _ _)).1]
      unfold Fp.rung
      rw [if_pos rfl]; decide
    · have hs : Fp.ng x = false := by
        cases c : Fp.ng x
        · rfl
        · exfalso
          have hr : Fp.rg x ≠ 0 := fun h => by
            obtain ⟨m', p', e', _, v⟩ := Fp.read_num hx
            rw [e] at e'
            cases e'
            rw [h, Fp.val_zero Fp.BB1] at v
            have : 0 < 2 ^ (i + 1074).toNat := Nat.pow_pos (by omega)
            rcases Nat.mul_eq_zero.1 v with c | c <;> omega
          unfold Fp.key at h0
          rw [c] at h0
          simp at h0
          omega
      rw [if_neg hm, hs, if_neg (by decide)]
      obtain ⟨k, hk⟩ : ∃ k : Nat, k = (2 * (double.fractionBits + 2) - m.log2) + ((i - ((2 * (double.fractionBits + 2) - m.log2 : Nat) : Int)) % 2).toNat := ⟨_, rfl⟩
      rw [← hk]
      refine ⟨_, rfl, near_nb _ _ _, near_fin ?_⟩
      have hn : (m <<< k).log2 = m.log2 + k := by rw [Nat.shiftLeft_eq]; exact Fp.log2_scale m k hm
      rw [hn]
      have hw := root_lt (m <<< k) ((m.log2 + k) / 2 + 1) 0
      rw [Nat.zero_add] at hw
      generalize Datum.rootFrom (m <<< k) ((m.log2 + k) / 2 + 1) 0 = r at *
      have hM : 2 * r + (r * r != m <<< k).toNat < 2 ^ ((m.log2 + k) / 2 + 2) := by
        have : 2 ^ ((m.log2 + k) / 2 + 2) = 2 * 2 ^ ((m.log2 + k) / 2 + 1) := by rw [Nat.pow_succ 2 ((m.log2 + k) / 2 + 1)]; omega
        rw [this]
        have : (r * r != m <<< k).toNat ≤ 1 := by cases (r * r != m <<< k) <;> decide
        omega
      have hL := log2_lt hM (by omega)
      have hml := log2_lt m1 (by omega)
      generalize (2 * r + (r * r != m <<< k).toNat).log2 = L at *
      omega
  obtain ⟨w, h1, h2, h3⟩ := key
  unfold fsqrt
  rw [h1]
  exact ⟨rfl, h2, h3⟩
theorem not_nan {x : Nat} (h : nb x) : Fl.isNaN x = false := by
  unfold Fl.isNaN
  rw [read_rd]
  unfold rd
  have := h.2
  split
  · rfl
  · split
    · rfl
    · rw [if_pos (by omega)]; rfl
/-- two finite ends, in whatever order -/
theorem wid_fin {lo hi : Nat} (h1 : nb lo) (h2 : nb hi) (f1 : Fp.fin lo) (f2 : Fp.fin hi) : same (widP lo hi) (widD lo hi) := by
  have b1 := Fp.key_fin f1
  have b2 := Fp.key_fin f2
  unfold widP widD
  have u2 := upW_nb h2 (by omega)
  have d1 := dnW_nb h1 (by omega)
  have kn : Fp.key (Op.negFloat .f64 lo) = -Fp.key lo := Fp.key_neg h1.1
  have n1 := upW_nb (nb_neg h1) (by rw [kn]; omega)
  have n2 := nb_neg n1.1
  have kn2 : Fp.key (Op.negFloat .f64 (Fp.upW (Op.negFloat .f64 lo))) = Fp.key lo - 1 := by rw [Fp.key_neg n1.1.1, n1.2, kn]; omega
  have ed : dnP lo = Fp.dnW lo := by unfold dnP; rw [if_neg (by omega)]
  have eu : upP hi = Fp.upW hi := by unfold upP; rw [if_neg (by omega)]
  have g1 : Fl.fin lo = true := by rw [Fp.fin_rg]; exact decide_eq_true f1
  have g2 : Fl.fin hi = true := by rw [Fp.fin_rg]; exact decide_eq_true f2
  rw [ed, eu, g1, g2]
  have es : soundB (Op.negFloat .f64 (Fp.upW (Op.negFloat .f64 lo)), Fp.upW hi) = soundB (Fp.dnW lo, Fp.upW hi) := by
    rw [sound_key n2 u2.1, sound_key d1.1 u2.1, kn2, u2.2, d1.2]
  rw [Bool.true_and, Bool.true_and, es]
  cases soundB (Fp.dnW lo, Fp.upW hi)
  · exact same_zero
  · exact ⟨rfl, ⟨d1.1, n2, d1.2.trans kn2.symm⟩, u2.1, u2.1, rfl⟩
def rootP (a : Nat × Nat) : (Nat × Nat) × Bool :=
  if (!soundB a || FloatKind.f64.format.order a.1 0 == some .lt) = true then ((0, 0), false)
  else ((fMM true .f64 (widP (fsqrt a.1) (fsqrt a.2)).1.1 0, (widP (fsqrt a.1) (fsqrt a.2)).1.2), (widP (fsqrt a.1) (fsqrt a.2)).2)
def rootD (a : Nat × Nat) : (Nat × Nat) × Bool :=
  if (!soundB a || FloatKind.f64.format.order a.1 0 == some .lt) = true then ((0, 0), false)
  else ((if (FloatKind.f64.format.order (widD (fsqrt a.1) (fsqrt a.2)).1.1 0 == some .lt) = true then 0 else (widD (fsqrt a.1) (fsqrt a.2)).1.1, (widD (fsqrt a.1) (fsqrt a.2)).1.2), (widD (fsqrt a.1) (fsqrt a.2)).2)
theorem root_ends {a : Nat × Nat} (A : Snd a) (h : (FloatKind.f64.format.order a.1 0 == some .lt) = false) : 0 ≤ Fp.key a.1 ∧ 0 ≤ Fp.key a.2 := by
  rw [Fp.lt_key A.n1.2 num_0.2, key_zero] at h
  have := of_decide_eq_false h
  have := A.le
  omega
theorem root_same (a : Nat × Nat) (ha : a.1 < 18446744073709551616 ∧ a.2 < 18446744073709551616) : same (rootP a) (rootD a) := by
  unfold rootP rootD
  cases hs : soundB a
  · exact same_zero
  · cases hl : FloatKind.f64.format.order a.1 0 == some .lt
    · have A := snd_of ha.1 ha.2 hs
      obtain ⟨z1, z2⟩ := root_ends A hl
      obtain ⟨_, n1, f1⟩ := fsqrt_nb A.f1 z1
      obtain ⟨_, n2, f2⟩ := fsqrt_nb A.f2 z2
      rw [if_neg (by decide), if_neg (by decide)]
      obtain ⟨e, ⟨a1, a2, a3⟩, b1, b2, b3⟩ := wid_fin n1 n2 f1 f2
      obtain ⟨m1, m2⟩ := fMM_key true a1 num_0
      rw [key_zero] at m2
      simp only [if_true] at m2
      have o := Fp.lt_key a2.2 num_0.2
      rw [key_zero] at o
      refine ⟨e, ⟨m1, ?_, ?_⟩, b1, b2, b3⟩
      · show nb (if (FloatKind.f64.format.order (widD (fsqrt a.1) (fsqrt a.2)).1.1 0 == some .lt) = true then 0 else (widD (fsqrt a.1) (fsqrt a.2)).1.1)
        split
        · exact num_0
        · exact a2
      · show Fp.key (fMM true .f64 (widP (fsqrt a.1) (fsqrt a.2)).1.1 0) = Fp.key (if (FloatKind.f64.format.order (widD (fsqrt a.1) (fsqrt a.2)).1.1 0 == some .lt) = true then 0 else (widD (fsqrt a.1) (fsqrt a.2)).1.1)
        rw [m2, o]
        by_cases c : Fp.key (widD (fsqrt a.1) (fsqrt a.2)).1.1 < 0
        · rw [if_pos (decide_eq_true c), key_zero]; omega
        · rw [if_neg (by rw [decide_eq_false c]; decide)]; omega
    · exact same_zero
end Go.Proofs.Ytlmmhmoihmlljaa
/-
  GrainSpans: the walk.
-/
namespace Go.Proofs.Ytlmmhmoihmlljaa
open Go Go.Ab Go.RowKit
set_option maxRecDepth 100000
theorem sqrtA (G : List (Nat × Value)) (x : Nat) (h : Ieee.double.sqrt x = some (fsqrt x)) (hn : nb (fsqrt x)) (K : AV → List AO → Prop) (hK : K (.fz F64 (fsqrt x)) []) : ACall Try.prog G 41 [.fz F64 x] [] K := by
  refine acall_below ⟨_, Try.func41, rfl, rfl⟩ (fun c H hA hG vs hv => ?_) hK
  obtain ⟨v, r, rfl, h1, h2⟩ := hv
  unfold RelL at h2
  subst h2
  rw [rel_flt.1 h1]
  refine (Sqrt_any x x (Fl.Sim.refl x) _).mono fun e w' ⟨r, n, e1, hs, e2⟩ => ⟨_, e1, by rw [← e2]; exact below_drewN (Below.refl _ _) _, fun c' _ _ => rel_flt.2 ?_⟩
  have e : Fl.sqrt x = fsqrt x := by unfold Fl.sqrt; rw [h]; rfl
  rw [e] at hs
  rcases hs with hs | ⟨_, hs⟩
  · rw [hs]
  · rw [not_nan hn] at hs; cases hs
theorem wid_nb {p q : (Nat × Nat) × Bool} (h : same p q) : nb p.1.1 ∧ nb q.1.1 := ⟨h.2.1.1, h.2.1.2.1⟩
set_option maxHeartbeats 4000000 in
theorem rootedA (G : List (Nat × Value)) (a : Nat × Nat) (hla : a.1 < 18446744073709551616 ∧ a.2 < 18446744073709551616) (K : AV → List AO → Prop) (hK : K (.tup [.fz SpT (rootP a).1, .fz .bool (rootP a).2]) []) :
    ACall Try.prog G 24 [.fz SpT a] [] K := by
  obtain ⟨a1, a2⟩ := a
  unfold rootP at hK
  refine acall_mk (E := envAt G 31 0) (envOk _ _ _) Try.func24 rfl rfl rfl rfl rfl ?_
  (repeat' (first | exact trivial | exact fun h => h | refine And.intro ?_ ?_ | (intro hb; first | (simp at hb; done) | (simp at hb) | skip) | omega | exact rfl | exact Nat.le_refl _ | (show _ + 1 ≤ 4294967296; omega) | (dsimp only; omega) | (show (_ : Int) ≤ (_ : Int); omega) | (show _ < List.length _; simp only [List.length_set, List.length_append, List.length_take]; omega) | (show wantB _ _ = true; simp; done) | (show wantB _ _ = true; simp; omega) | (show (_ : Bool) = _; simp_all; done) | (exfalso; omega) | refine aRegion_auto (by decide +kernel) ?_ | fail))
  refine acall_conv [.dat SpT] _ _ _ rfl trivial (acall_frame0 rfl (soundA _ (a1, a2) _ ?_))
  cases hs : soundB (a1, a2)
  · rw [hs] at hK
    (repeat' (first | exact trivial | exact fun h => h | refine And.intro ?_ ?_ | (intro hb; first | (simp at hb; done) | (simp at hb) | skip) | omega | exact rfl | exact Nat.le_refl _ | (show _ + 1 ≤ 4294967296; omega) | (dsimp only; omega) | (show (_ : Int) ≤ (_ : Int); omega) | (show _ < List.length _; simp only [List.length_set, List.length_append, List.length_take]; omega) | (show wantB _ _ = true; simp; done) | (show wantB _ _ = true; simp; omega) | (show (_ : Bool) = _; simp_all; done) | (exfalso; omega) | refine aRegion_auto (by decide +kernel) ?_ | fail))
    refine ⟨_, _, (REnt.conv [.dat SpT, .keep] _ rfl trivial).trans (REnt.drop ⟨rfl, rfl⟩), ?_⟩
    exact hK
  have A := snd_of (a := (a1, a2)) hla.1 hla.2 hs
  rw [hs] at hK
  (repeat' (first | exact trivial | exact fun h => h | refine And.intro ?_ ?_ | (intro hb; first | (simp at hb; done) | (simp at hb) | skip) | omega | exact rfl | exact Nat.le_refl _ | (show _ + 1 ≤ 4294967296; omega) | (dsimp only; omega) | (show (_ : Int) ≤ (_ : Int); omega) | (show _ < List.length _; simp only [List.length_set, List.length_append, List.length_take]; omega) | (show wantB _ _ = true; simp; done) | (show wantB _ _ = true; simp; omega) | (show (_ : Bool) = _; simp_all; done) | (exfalso; omega) | refine aRegion_auto (by decide +kernel) ?_ | fail))
  · have hl : (FloatKind.f64.format.order a1 0 == some .lt) = true := by rw [hb]; rfl
    rw [hl] at hK
    refine ⟨_, _, (REnt.conv [.dat SpT, .keep] _ rfl trivial).trans (REnt.drop ⟨rfl, rfl⟩), ?_⟩
    exact hK
  have hl : (FloatKind.f64.format.order a1 0 == some .lt) = false := by simpa using hb
  rw [hl] at hK
  obtain ⟨z1, z2⟩ := root_ends A hl
  obtain ⟨s1, n1, f1⟩ := fsqrt_nb A.f1 z1
  obtain ⟨s2, n2, f2⟩ := fsqrt_nb A.f2 z2
  have hw := (wid_nb (wid_fin n1 n2 f1 f2)).1
  have hW := widerA G (fsqrt a1) (fsqrt a2) n1 n2
  rw [if_neg (by decide)] at hK
  simp only at hK
  generalize widP (fsqrt a1) (fsqrt a2) = w at *
  obtain ⟨⟨w1, w2⟩, wb⟩ := w
  generalize hr1 : fsqrt a1 = r1 at *
  generalize hr2 : fsqrt a2 = r2 at *
  have S1 := sqrtA G a1 (by rw [hr1]; exact s1) (by rw [hr1]; exact n1)
  have S2 := sqrtA G a2 (by rw [hr2]; exact s2) (by rw [hr2]; exact n2)
  rw [hr1] at S1
  rw [hr2] at S2
  have ho := ord_some (x := w1) hw num_0
  let bA : AO := .box [.fz F64 a1, .fz F64 a2]
  let bR : AO := .box [.fz F64 (0 : Nat), .fz F64 (0 : Nat)]
  let bS : AO := .box [.fz F64 w1, .fz F64 w2]
  let rm : AO := .room
  refine aRegion_open 1 (by decide +kernel) ?_
  (repeat' (first | exact trivial | exact fun h => h | refine And.intro ?_ ?_ | (intro hb; first | (simp at hb; done) | (simp at hb) | skip) | omega | exact rfl | exact Nat.le_refl _ | (show _ + 1 ≤ 4294967296; omega) | (dsimp only; omega) | (show (_ : Int) ≤ (_ : Int); omega) | (show _ < List.length _; simp only [List.length_set, List.length_append, List.length_take]; omega) | (show wantB _ _ = true; simp; done) | (show wantB _ _ = true; simp; omega) | (show (_ : Bool) = _; simp_all; done) | (exfalso; omega) | refine aRegion_auto (by decide +kernel) ?_ | fail))
  refine eff_is (.fz F64 r1) [bA, bR, rm] ?_
  (repeat' (first | exact trivial | exact fun h => h | refine And.intro ?_ ?_ | (intro hb; first | (simp at hb; done) | (simp at hb) | skip) | omega | exact rfl | exact Nat.le_refl _ | (show _ + 1 ≤ 4294967296; omega) | (dsimp only; omega) | (show (_ : Int) ≤ (_ : Int); omega) | (show _ < List.length _; simp only [List.length_set, List.length_append, List.length_take]; omega) | (show wantB _ _ = true; simp; done) | (show wantB _ _ = true; simp; omega) | (show (_ : Bool) = _; simp_all; done) | (exfalso; omega) | refine aRegion_auto (by decide +kernel) ?_ | fail))
  refine eff_is (.fz F64 r2) [bA, bR, rm] ?_
  (repeat' (first | exact trivial | exact fun h => h | refine And.intro ?_ ?_ | (intro hb; first | (simp at hb; done) | (simp at hb) | skip) | omega | exact rfl | exact Nat.le_refl _ | (show _ + 1 ≤ 4294967296; omega) | (dsimp only; omega) | (show (_ : Int) ≤ (_ : Int); omega) | (show _ < List.length _; simp only [List.length_set, List.length_append, List.length_take]; omega) | (show wantB _ _ = true; simp; done) | (show wantB _ _ = true; simp; omega) | (show (_ : Bool) = _; simp_all; done) | (exfalso; omega) | refine aRegion_auto (by decide +kernel) ?_ | fail))
  refine eff_is (.tup [.fz SpT (w1, w2), .fz .bool wb]) [bA, bR, rm] ?_
  (repeat' (first | exact trivial | exact fun h => h | refine And.intro ?_ ?_ | (intro hb; first | (simp at hb; done) | (simp at hb) | skip) | omega | exact rfl | exact Nat.le_refl _ | (show _ + 1 ≤ 4294967296; omega) | (dsimp only; omega) | (show (_ : Int) ≤ (_ : Int); omega) | (show _ < List.length _; simp only [List.length_set, List.length_append, List.length_take]; omega) | (show wantB _ _ = true; simp; done) | (show wantB _ _ = true; simp; omega) | (show (_ : Bool) = _; simp_all; done) | (exfalso; omega) | refine aRegion_auto (by decide +kernel) ?_ | fail))
  refine eff_is (.ptr 2 0) [bA, bR, bR] ?_
  (repeat' (first | exact trivial | exact fun h => h | refine And.intro ?_ ?_ | (intro hb; first | (simp at hb; done) | (simp at hb) | skip) | omega | exact rfl | exact Nat.le_refl _ | (show _ + 1 ≤ 4294967296; omega) | (dsimp only; omega) | (show (_ : Int) ≤ (_ : Int); omega) | (show _ < List.length _; simp only [List.length_set, List.length_append, List.length_take]; omega) | (show wantB _ _ = true; simp; done) | (show wantB _ _ = true; simp; omega) | (show (_ : Bool) = _; simp_all; done) | (exfalso; omega) | refine aRegion_auto (by decide +kernel) ?_ | fail))
  refine eff_is .unk [bA, bR, bS] ?_
  refine ⟨[(0, [bA, bR, rm]), (4, [bA, bR, rm]), (1024, [bA, bR, bR]), (36, [bA, bR, rm]), (1028, [bA, bR, bR]), (100, [bA, bR, rm]), (1060, [bA, bR, bR]), (1124, [bA, bR, bR]), (3172, [bA, bR, bS])], rfl, rfl, ?_, ?_⟩
  · (repeat' (first | refine And.intro ?_ ?_ | exact trivial | exact rfl | omega))
    all_goals first
      | (refine acall_frame0 rfl (S1 _ ?_); refine view_of [0, 1, 2] rfl ?_ rfl rfl; (repeat' (first | exact trivial | exact rfl | refine And.intro ?_ ?_)); done)
      | (refine acall_frame0 rfl (S2 _ ?_); refine view_of [0, 1, 2] rfl ?_ rfl rfl; (repeat' (first | exact trivial | exact rfl | refine And.intro ?_ ?_)); done)
      | (refine acall_frame0 rfl (hW _ ?_); refine view_of [0, 1, 2] rfl ?_ rfl rfl; (repeat' (first | exact trivial | exact rfl | refine And.intro ?_ ?_)); done)
      | (refine view_of [0, 1, 3] rfl ?_ rfl rfl; (repeat' (first | exact trivial | exact rfl | refine And.intro ?_ ?_)); done)
      | (refine view_of [0, 1, 2] rfl ?_ rfl rfl; (repeat' (first | exact trivial | exact rfl | refine And.intro ?_ ?_)); done)
  (repeat' (first | exact trivial | exact fun h => h | refine And.intro ?_ ?_ | (intro hb; first | (simp at hb; done) | (simp at hb) | skip) | omega | exact rfl | exact Nat.le_refl _ | (show _ + 1 ≤ 4294967296; omega) | (dsimp only; omega) | (show (_ : Int) ≤ (_ : Int); omega) | (show _ < List.length _; simp only [List.length_set, List.length_append, List.length_take]; omega) | (show wantB _ _ = true; simp; done) | (show wantB _ _ = true; simp; omega) | (show (_ : Bool) = _; simp_all; done) | (exfalso; omega) | refine aRegion_auto (by decide +kernel) ?_ | fail))
  all_goals first
    | exact ho
    | (refine ⟨_, _, (REnt.conv [.dat SpT, .keep] _ rfl trivial).trans (REnt.drop ⟨rfl, rfl⟩), ?_⟩; exact hK)
set_option maxHeartbeats 4000000 in
theorem rootedOfA (G : List (Nat × Value)) (a : Nat × Nat) (hla : a.1 < 18446744073709551616 ∧ a.2 < 18446744073709551616) (K : AV → List AO → Prop) (hK : K (.tup [.fz SpT (rootD a).1, .fz .bool (rootD a).2]) []) :
    ACall Try.prog G 25 [.fz SpT a] [] K := by
  obtain ⟨a1, a2⟩ := a
  unfold rootD at hK
  refine acall_mk (E := envAt G 32 0) (envOk _ _ _) Try.func25 rfl rfl rfl rfl rfl ?_
  (repeat' (first | exact trivial | exact fun h => h | refine And.intro ?_ ?_ | (intro hb; first | (simp at hb; done) | (simp at hb) | skip) | omega | exact rfl | exact Nat.le_refl _ | (show _ + 1 ≤ 4294967296; omega) | (dsimp only; omega) | (show (_ : Int) ≤ (_ : Int); omega) | (show _ < List.length _; simp only [List.length_set, List.length_append, List.length_take]; omega) | (show wantB _ _ = true; simp; done) | (show wantB _ _ = true; simp; omega) | (show (_ : Bool) = _; simp_all; done) | (exfalso; omega) | refine aRegion_auto (by decide +kernel) ?_ | fail))
  refine acall_conv [.dat SpT] _ _ _ rfl trivial (acall_frame0 rfl (isSpanA _ (a1, a2) _ ?_))
  cases hs : soundB (a1, a2)
  · rw [hs] at hK
    (repeat' (first | exact trivial | exact fun h => h | refine And.intro ?_ ?_ | (intro hb; first | (simp at hb; done) | (simp at hb) | skip) | omega | exact rfl | exact Nat.le_refl _ | (show _ + 1 ≤ 4294967296; omega) | (dsimp only; omega) | (show (_ : Int) ≤ (_ : Int); omega) | (show _ < List.length _; simp only [List.length_set, List.length_append, List.length_take]; omega) | (show wantB _ _ = true; simp; done) | (show wantB _ _ = true; simp; omega) | (show (_ : Bool) = _; simp_all; done) | (exfalso; omega) | refine aRegion_auto (by decide +kernel) ?_ | fail))
    refine ⟨_, _, (REnt.conv [.dat SpT, .keep] _ rfl trivial).trans (REnt.drop ⟨rfl, rfl⟩), ?_⟩
    exact hK
  have A := snd_of (a := (a1, a2)) hla.1 hla.2 hs
  rw [hs] at hK
  (repeat' (first | exact trivial | exact fun h => h | refine And.intro ?_ ?_ | (intro hb; first | (simp at hb; done) | (simp at hb) | skip) | omega | exact rfl | exact Nat.le_refl _ | (show _ + 1 ≤ 4294967296; omega) | (dsimp only; omega) | (show (_ : Int) ≤ (_ : Int); omega) | (show _ < List.length _; simp only [List.length_set, List.length_append, List.length_take]; omega) | (show wantB _ _ = true; simp; done) | (show wantB _ _ = true; simp; omega) | (show (_ : Bool) = _; simp_all; done) | (exfalso; omega) | refine aRegion_auto (by decide +kernel) ?_ | fail))
  · have hl : (FloatKind.f64.format.order a1 0 == some .lt) = true := by rw [hb]; rfl
    rw [hl] at hK
    refine ⟨_, _, (REnt.conv [.dat SpT, .keep] _ rfl trivial).trans (REnt.drop ⟨rfl, rfl⟩), ?_⟩
    exact hK
  have hl : (FloatKind.f64.format.order a1 0 == some .lt) = false := by simpa using hb
  rw [hl] at hK
  obtain ⟨z1, z2⟩ := root_ends A hl
  obtain ⟨s1, n1, f1⟩ := fsqrt_nb A.f1 z1
  obtain ⟨s2, n2, f2⟩ := fsqrt_nb A.f2 z2
  have hw := (wid_nb (wid_fin n1 n2 f1 f2)).2
  have hW := widerD G (fsqrt a1) (fsqrt a2) n1 n2
  rw [if_neg (by decide)] at hK
  simp only at hK
  generalize widD (fsqrt a1) (fsqrt a2) = w at *
  obtain ⟨⟨w1, w2⟩, wb⟩ := w
  generalize hr1 : fsqrt a1 = r1 at *
  generalize hr2 : fsqrt a2 = r2 at *
  have S1 := sqrtA G a1 (by rw [hr1]; exact s1) (by rw [hr1]; exact n1)
  have S2 := sqrtA G a2 (by rw [hr2]; exact s2) (by rw [hr2]; exact n2)
  rw [hr1] at S1
  rw [hr2] at S2
  have ho := ord_some (x := w1) hw num_0
  let bA : AO := .box [.fz F64 a1, .fz F64 a2]
  let bR : AO := .box [.fz F64 (0 : Nat), .fz F64 (0 : Nat)]
  let bS : AO := .box [.fz F64 w1, .fz F64 w2]
  let rm : AO := .room
  refine aRegion_open 1 (by decide +kernel) ?_
  (repeat' (first | exact trivial | exact fun h => h | refine And.intro ?_ ?_ | (intro hb; first | (simp at hb; done) | (simp at hb) | skip) | omega | exact rfl | exact Nat.le_refl _ | (show _ + 1 ≤ 4294967296; omega) | (dsimp only; omega) | (show (_ : Int) ≤ (_ : Int); omega) | (show _ < List.length _; simp only [List.length_set, List.length_append, List.length_take]; omega) | (show wantB _ _ = true; simp; done) | (show wantB _ _ = true; simp; omega) | (show (_ : Bool) = _; simp_all; done) | (exfalso; omega) | refine aRegion_auto (by decide +kernel) ?_ | fail))
  refine eff_is (.fz F64 r1) [bA, bR, rm] ?_
  (repeat' (first | exact trivial | exact fun h => h | refine And.intro ?_ ?_ | (intro hb; first | (simp at hb; done) | (simp at hb) | skip) | omega | exact rfl | exact Nat.le_refl _ | (show _ + 1 ≤ 4294967296; omega) | (dsimp only; omega) | (show (_ : Int) ≤ (_ : Int); omega) | (show _ < List.length _; simp only [List.length_set, List.length_append, List.length_take]; omega) | (show wantB _ _ = true; simp; done) | (show wantB _ _ = true; simp; omega) | (show (_ : Bool) = _; simp_all; done) | (exfalso; omega) | refine aRegion_auto (by decide +kernel) ?_ | fail))
  refine eff_is (.fz F64 r2) [bA, bR, rm] ?_
  (repeat' (first | exact trivial | exact fun h => h | refine And.intro ?_ ?_ | (intro hb; first | (simp at hb; done) | (simp at hb) | skip) | omega | exact rfl | exact Nat.le_refl _ | (show _ + 1 ≤ 4294967296; omega) | (dsimp only; omega) | (show (_ : Int) ≤ (_ : Int); omega) | (show _ < List.length _; simp only [List.length_set, List.length_append, List.length_take]; omega) | (show wantB _ _ = true; simp; done) | (show wantB _ _ = true; simp; omega) | (show (_ : Bool) = _; simp_all; done) | (exfalso; omega) | refine aRegion_auto (by decide +kernel) ?_ | fail))
  refine eff_is (.tup [.fz SpT (w1, w2), .fz .bool wb]) [bA, bR, rm] ?_
  (repeat' (first | exact trivial | exact fun h => h | refine And.intro ?_ ?_ | (intro hb; first | (simp at hb; done) | (simp at hb) | skip) | omega | exact rfl | exact Nat.le_refl _ | (show _ + 1 ≤ 4294967296; omega) | (dsimp only; omega) | (show (_ : Int) ≤ (_ : Int); omega) | (show _ < List.length _; simp only [List.length_set, List.length_append, List.length_take]; omega) | (show wantB _ _ = true; simp; done) | (show wantB _ _ = true; simp; omega) | (show (_ : Bool) = _; simp_all; done) | (exfalso; omega) | refine aRegion_auto (by decide +kernel) ?_ | fail))
  refine eff_is (.ptr 2 0) [bA, bR, bR] ?_
  (repeat' (first | exact trivial | exact fun h => h | refine And.intro ?_ ?_ | (intro hb; first | (simp at hb; done) | (simp at hb) | skip) | omega | exact rfl | exact Nat.le_refl _ | (show _ + 1 ≤ 4294967296; omega) | (dsimp only; omega) | (show (_ : Int) ≤ (_ : Int); omega) | (show _ < List.length _; simp only [List.length_set, List.length_append, List.length_take]; omega) | (show wantB _ _ = true; simp; done) | (show wantB _ _ = true; simp; omega) | (show (_ : Bool) = _; simp_all; done) | (exfalso; omega) | refine aRegion_auto (by decide +kernel) ?_ | fail))
  refine eff_is .unk [bA, bR, bS] ?_
  refine ⟨[(0, [bA, bR, rm]), (4, [bA, bR, rm]), (1024, [bA, bR, bR]), (36, [bA, bR, rm]), (1028, [bA, bR, bR]), (100, [bA, bR, rm]), (1060, [bA, bR, bR]), (1124, [bA, bR, bR]), (3172, [bA, bR, bS])], rfl, rfl, ?_, ?_⟩
  · (repeat' (first | refine And.intro ?_ ?_ | exact trivial | exact rfl | omega))
    all_goals first
      | (refine acall_frame0 rfl (S1 _ ?_); refine view_of [0, 1, 2] rfl ?_ rfl rfl; (repeat' (first | exact trivial | exact rfl | refine And.intro ?_ ?_)); done)
      | (refine acall_frame0 rfl (S2 _ ?_); refine view_of [0, 1, 2] rfl ?_ rfl rfl; (repeat' (first | exact trivial | exact rfl | refine And.intro ?_ ?_)); done)
      | (refine acall_frame0 rfl (hW _ ?_); refine view_of [0, 1, 2] rfl ?_ rfl rfl; (repeat' (first | exact trivial | exact rfl | refine And.intro ?_ ?_)); done)
      | (refine view_of [0, 1, 3] rfl ?_ rfl rfl; (repeat' (first | exact trivial | exact rfl | refine And.intro ?_ ?_)); done)
      | (refine view_of [0, 1, 2] rfl ?_ rfl rfl; (repeat' (first | exact trivial | exact rfl | refine And.intro ?_ ?_)); done)
  (repeat' (first | exact trivial | exact fun h => h | refine And.intro ?_ ?_ | (intro hb; first | (simp at hb; done) | (simp at hb) | skip) | omega | exact rfl | exact Nat.le_refl _ | (show _ + 1 ≤ 4294967296; omega) | (dsimp only; omega) | (show (_ : Int) ≤ (_ : Int); omega) | (show _ < List.length _; simp only [List.length_set, List.length_append, List.length_take]; omega) | (show wantB _ _ = true; simp; done) | (show wantB _ _ = true; simp; omega) | (show (_ : Bool) = _; simp_all; done) | (exfalso; omega) | refine aRegion_auto (by decide +kernel) ?_ | fail))
  · have hl2 : (FloatKind.f64.format.order w1 0 == some .lt) = true := by rw [hb]; rfl
    rw [if_pos hl2] at hK
    refine ⟨_, _, (REnt.conv [.dat SpT, .keep] _ rfl trivial).trans (REnt.drop ⟨rfl, rfl⟩), ?_⟩
    exact hK
  · have hl2 : ¬ (FloatKind.f64.format.order w1 0 == some .lt) = true := by simpa using hb
    rw [if_neg hl2] at hK
    refine ⟨_, _, (REnt.conv [.dat SpT, .keep] _ rfl trivial).trans (REnt.drop ⟨rfl, rfl⟩), ?_⟩
    exact hK
theorem enclosesA (G : List (Nat × Value)) (K : AV → List AO → Prop) (hK : K (.fz .bool true) []) : ACall Try.prog G 20 [] [] K := by
  refine acall_mk (E := envAt G 30 0) (envOk _ _ _) Try.func20 rfl rfl rfl rfl rfl ?_
  (repeat' (first | exact trivial | exact fun h => h | refine And.intro ?_ ?_ | (intro hb; first | (simp at hb; done) | (simp at hb) | skip) | omega | exact rfl | exact Nat.le_refl _ | (show _ + 1 ≤ 4294967296; omega) | (dsimp only; omega) | (show (_ : Int) ≤ (_ : Int); omega) | (show _ < List.length _; simp only [List.length_set, List.length_append, List.length_take]; omega) | (show wantB _ _ = true; simp; done) | (show wantB _ _ = true; simp; omega) | (show (_ : Bool) = _; simp_all; done) | (exfalso; omega) | refine aRegion_auto (by decide +kernel) ?_ | fail))
  refine acall_conv [.dat SpT, .dat SpT, .keep] _ _ _ rfl trivial (acall_frame0 rfl (joinA _ (4607182418800017408, 4611686018427387904) (4613937818241073152, 4616189618054758400) 43 (by decide) (by decide) _ ?_))
  have e : joinP (4607182418800017408, 4611686018427387904) (4613937818241073152, 4616189618054758400) 43 = ((4616189618054758399, 4618441417868443649), true) := by decide +kernel
  rw [e]
  (repeat' (first | exact trivial | exact fun h => h | refine And.intro ?_ ?_ | (intro hb; first | (simp at hb; done) | (simp at hb) | skip) | omega | exact rfl | exact Nat.le_refl _ | (show _ + 1 ≤ 4294967296; omega) | (dsimp only; omega) | (show (_ : Int) ≤ (_ : Int); omega) | (show _ < List.length _; simp only [List.length_set, List.length_append, List.length_take]; omega) | (show wantB _ _ = true; simp; done) | (show wantB _ _ = true; simp; omega) | (show (_ : Bool) = _; simp_all; done) | (exfalso; omega) | refine aRegion_auto (by decide +kernel) ?_ | fail))
  refine ⟨_, _, REnt.drop ⟨rfl, rfl⟩, ?_⟩
  refine (congrArg (fun q => K (.fz .bool q) []) (?_ : _ = true)).mpr hK
  decide +kernel
set_option maxHeartbeats 4000000 in
/-- what the law answers -/
theorem grainSpans_any (G : List (Nat × Value)) (a b : Nat × Nat) (how : Int) (x : Nat) (hla : a.1 < 18446744073709551616 ∧ a.2 < 18446744073709551616) (hlb : b.1 < 18446744073709551616 ∧ b.2 < 18446744073709551616) (K : AV → List AO → Prop) (hK : K (.fz .bool true) []) :
    ACall Try.prog G 4 [.fz SpT a, .fz SpT b, .fz (.int .u8) how, .fz F64 x] [] K := by
  have hj := join_same a b how hla hlb
  have hr := root_same a hla
  obtain ⟨j1, j2⟩ := same_span hj
  obtain ⟨r1, r2⟩ := same_span hr
  have hJ := joinA G a b how hla hlb
  have hJ2 := joinOfA G a b how hla hlb
  have hR := rootedA G a hla
  have hR2 := rootedOfA G a hla
  generalize joinP a b how = jp at *
  generalize joinD a b how = jd at *
  generalize rootP a = rp at *
  generalize rootD a = rd' at *
  obtain ⟨⟨jp1, jp2⟩, jpb⟩ := jp
  obtain ⟨⟨jd1, jd2⟩, jdb⟩ := jd
  obtain ⟨⟨rp1, rp2⟩, rpb⟩ := rp
  obtain ⟨⟨rd1, rd2⟩, rdb⟩ := rd'
  obtain rfl : jpb = jdb := by simpa using j1
  obtain rfl : rpb = rdb := by simpa using r1
  obtain ⟨a1, a2⟩ := a
  obtain ⟨b1, b2⟩ := b
  refine acall_mk (E := envAt G 91 0) (envOk _ _ _) Try.func4 rfl rfl rfl rfl rfl ?_
  (repeat' (first | exact trivial | exact fun h => h | refine And.intro ?_ ?_ | (intro hb; first | (simp at hb; done) | (simp at hb) | skip) | omega | exact rfl | exact Nat.le_refl _ | (show _ + 1 ≤ 4294967296; omega) | (dsimp only; omega) | (show (_ : Int) ≤ (_ : Int); omega) | (show _ < List.length _; simp only [List.length_set, List.length_append, List.length_take]; omega) | (show wantB _ _ = true; simp; done) | (show wantB _ _ = true; simp; omega) | (show (_ : Bool) = _; simp_all; done) | (exfalso; omega) | refine aRegion_auto (by decide +kernel) ?_ | fail))
  refine acall_frame0 rfl (enclosesA _ _ ?_)
  (repeat' (first | exact trivial | exact fun h => h | refine And.intro ?_ ?_ | (intro hb; first | (simp at hb; done) | (simp at hb) | skip) | omega | exact rfl | exact Nat.le_refl _ | (show _ + 1 ≤ 4294967296; omega) | (dsimp only; omega) | (show (_ : Int) ≤ (_ : Int); omega) | (show _ < List.length _; simp only [List.length_set, List.length_append, List.length_take]; omega) | (show wantB _ _ = true; simp; done) | (show wantB _ _ = true; simp; omega) | (show (_ : Bool) = _; simp_all; done) | (exfalso; omega) | refine aRegion_auto (by decide +kernel) ?_ | fail))
  refine acall_conv [.dat SpT, .dat SpT, .keep] _ _ _ rfl trivial (acall_frame0 rfl (hJ _ ?_))
  (repeat' (first | exact trivial | exact fun h => h | refine And.intro ?_ ?_ | (intro hb; first | (simp at hb; done) | (simp at hb) | skip) | omega | exact rfl | exact Nat.le_refl _ | (show _ + 1 ≤ 4294967296; omega) | (dsimp only; omega) | (show (_ : Int) ≤ (_ : Int); omega) | (show _ < List.length _; simp only [List.length_set, List.length_append, List.length_take]; omega) | (show wantB _ _ = true; simp; done) | (show wantB _ _ = true; simp; omega) | (show (_ : Bool) = _; simp_all; done) | (exfalso; omega) | refine aRegion_auto (by decide +kernel) ?_ | fail))
  refine acall_conv [.dat SpT, .dat SpT, .keep] _ _ _ rfl trivial (acall_frame0 rfl (hJ2 _ ?_))
  (repeat' (first | exact trivial | exact fun h => h | refine And.intro ?_ ?_ | (intro hb; first | (simp at hb; done) | (simp at hb) | skip) | omega | exact rfl | exact Nat.le_refl _ | (show _ + 1 ≤ 4294967296; omega) | (dsimp only; omega) | (show (_ : Int) ≤ (_ : Int); omega) | (show _ < List.length _; simp only [List.length_set, List.length_append, List.length_take]; omega) | (show wantB _ _ = true; simp; done) | (show wantB _ _ = true; simp; omega) | (show (_ : Bool) = _; simp_all; done) | (exfalso; omega) | refine aRegion_auto (by decide +kernel) ?_ | fail))
  refine acall_conv [.dat SpT, .dat SpT] _ _ _ rfl trivial (acall_frame0 rfl (sameSpanA _ (jp1, jp2) (jd1, jd2) _ ?_))
  rw [show (sameB (jp1, jp2).1 (jd1, jd2).1 && sameB (jp1, jp2).2 (jd1, jd2).2) = true from j2]
  (repeat' (first | exact trivial | exact fun h => h | refine And.intro ?_ ?_ | (intro hb; first | (simp at hb; done) | (simp at hb) | skip) | omega | exact rfl | exact Nat.le_refl _ | (show _ + 1 ≤ 4294967296; omega) | (dsimp only; omega) | (show (_ : Int) ≤ (_ : Int); omega) | (show _ < List.length _; simp only [List.length_set, List.length_append, List.length_take]; omega) | (show wantB _ _ = true; simp; done) | (show wantB _ _ = true; simp; omega) | (show (_ : Bool) = _; simp_all; done) | (exfalso; omega) | refine aRegion_auto (by decide +kernel) ?_ | fail))
  refine acall_conv [.dat SpT] _ _ _ rfl trivial (acall_frame0 rfl (hR _ ?_))
  (repeat' (first | exact trivial | exact fun h => h | refine And.intro ?_ ?_ | (intro hb; first | (simp at hb; done) | (simp at hb) | skip) | omega | exact rfl | exact Nat.le_refl _ | (show _ + 1 ≤ 4294967296; omega) | (dsimp only; omega) | (show (_ : Int) ≤ (_ : Int); omega) | (show _ < List.length _; simp only [List.length_set, List.length_append, List.length_take]; omega) | (show wantB _ _ = true; simp; done) | (show wantB _ _ = true; simp; omega) | (show (_ : Bool) = _; simp_all; done) | (exfalso; omega) | refine aRegion_auto (by decide +kernel) ?_ | fail))
  refine acall_conv [.dat SpT] _ _ _ rfl trivial (acall_frame0 rfl (hR2 _ ?_))
  (repeat' (first | exact trivial | exact fun h => h | refine And.intro ?_ ?_ | (intro hb; first | (simp at hb; done) | (simp at hb) | skip) | omega | exact rfl | exact Nat.le_refl _ | (show _ + 1 ≤ 4294967296; omega) | (dsimp only; omega) | (show (_ : Int) ≤ (_ : Int); omega) | (show _ < List.length _; simp only [List.length_set, List.length_append, List.length_take]; omega) | (show wantB _ _ = true; simp; done) | (show wantB _ _ = true; simp; omega) | (show (_ : Bool) = _; simp_all; done) | (exfalso; omega) | refine aRegion_auto (by decide +kernel) ?_ | fail))
  refine acall_conv [.dat SpT, .dat SpT] _ _ _ rfl trivial (acall_frame0 rfl (sameSpanA _ (rp1, rp2) (rd1, rd2) _ ?_))
  rw [show (sameB (rp1, rp2).1 (rd1, rd2).1 && sameB (rp1, rp2).2 (rd1, rd2).2) = true from r2]
  (repeat' (first | exact trivial | exact fun h => h | refine And.intro ?_ ?_ | (intro hb; first | (simp at hb; done) | (simp at hb) | skip) | omega | exact rfl | exact Nat.le_refl _ | (show _ + 1 ≤ 4294967296; omega) | (dsimp only; omega) | (show (_ : Int) ≤ (_ : Int); omega) | (show _ < List.length _; simp only [List.length_set, List.length_append, List.length_take]; omega) | (show wantB _ _ = true; simp; done) | (show wantB _ _ = true; simp; omega) | (show (_ : Bool) = _; simp_all; done) | (exfalso; omega) | refine aRegion_auto (by decide +kernel) ?_ | fail))
  refine acall_conv [.dat SpT] _ _ _ rfl trivial (acall_frame0 rfl (isSpanA _ (a1, a2) _ ?_))
  (repeat' (first | exact trivial | exact fun h => h | refine And.intro ?_ ?_ | (intro hb; first | (simp at hb; done) | (simp at hb) | skip) | omega | exact rfl | exact Nat.le_refl _ | (show _ + 1 ≤ 4294967296; omega) | (dsimp only; omega) | (show (_ : Int) ≤ (_ : Int); omega) | (show _ < List.length _; simp only [List.length_set, List.length_append, List.length_take]; omega) | (show wantB _ _ = true; simp; done) | (show wantB _ _ = true; simp; omega) | (show (_ : Bool) = _; simp_all; done) | (exfalso; omega) | refine aRegion_auto (by decide +kernel) ?_ | fail))
  all_goals first | (exfalso; simp_all; done) | skip
  refine acall_conv [.dat SpT, .keep] _ _ _ rfl trivial (acall_frame0 rfl (hasA _ (a1, a2) x _ ?_))
  (repeat' (first | exact trivial | exact fun h => h | refine And.intro ?_ ?_ | (intro hb; first | (simp at hb; done) | (simp at hb) | skip) | omega | exact rfl | exact Nat.le_refl _ | (show _ + 1 ≤ 4294967296; omega) | (dsimp only; omega) | (show (_ : Int) ≤ (_ : Int); omega) | (show _ < List.length _; simp only [List.length_set, List.length_append, List.length_take]; omega) | (show wantB _ _ = true; simp; done) | (show wantB _ _ = true; simp; omega) | (show (_ : Bool) = _; simp_all; done) | (exfalso; omega) | refine aRegion_auto (by decide +kernel) ?_ | fail))
  refine ⟨_, _, REnt.drop ⟨rfl, rfl⟩, ?_⟩
  refine (congrArg (fun q => K (.fz .bool q) []) (?_ : _ = true)).mpr hK
  have e1 : (jpb == jpb) = true := by cases jpb <;> rfl
  have e2 : (rpb == rpb) = true := by cases rpb <;> rfl
  have e3 : hasB (a1, a2) x = (bif (bif soundB (a1, a2) then leB a1 x else false) then leB x a2 else false) := by
    unfold hasB
    cases soundB (a1, a2) <;> cases leB a1 x <;> rfl
  show (bif bif bif bif jpb == jpb then rpb == rpb else false then true else false then true else false then hasB (a1, a2) x == (bif (bif soundB (a1, a2) then leB a1 x else false) then leB x a2 else false) else false) = true
  rw [e1, e2, ← e3]
  simp
end Go.Proofs.Ytlmmhmoihmlljaa
/-
  What is rounded lies between the neighbours of what it is rounded to.
-/
namespace Fp
open Ieee
theorem R_near (x d : Nat) : (R x d = x / 2 ^ d ∨ R x d = x / 2 ^ d + 1) := by
  unfold R; split <;> omega
/-- the magnitude of a rung told by its binade and what it has there -/
theorem val_at {B c R : Nat} (hB : 1 < B) (h : R ≤ 2 * B) (hc : 0 < c → B ≤ R) : val B (c * B + R) = R * 2 ^ c := by
  have h0 : 0 < B := by omega
  by_cases h1 : R = 2 * B
  · have e : c * B + R = (c + 2) * B := by rw [h1, Nat.add_mul]
    rw [e]
    unfold val
    rw [if_neg (by have := Nat.mul_le_mul_right B (show 2 ≤ c + 2 by omega); omega), Nat.mul_mod_left, Nat.mul_div_cancel _ h0, h1, show c + 2 - 1 = c + 1 by omega, Nat.pow_succ, Nat.add_zero]
    rw [Nat.mul_comm (2 ^ c) 2, ← Nat.mul_assoc, Nat.mul_comm B 2]
  · by_cases h2 : R < B
    · have : c = 0 := by
        rcases Nat.eq_zero_or_pos c with k | k
        · exact k
        · have := hc k; omega
      subst this
      unfold val
      rw [Nat.zero_mul, Nat.zero_add, if_pos h2]; simp
    · obtain ⟨q, rfl⟩ : ∃ q, R = B + q := ⟨R - B, by omega⟩
      have hq : q < B := by omega
      have e : c * B + (B + q) = B * (c + 1) + q := by rw [Nat.mul_add, Nat.mul_one, Nat.mul_comm]; omega
      rw [e]
      unfold val
      have hB1 : B ≤ B * (c + 1) := Nat.le_mul_of_pos_right B (by omega)
      rw [if_neg (by omega), Nat.mul_add_mod, Nat.mod_eq_of_lt hq, Nat.mul_add_div h0, Nat.div_eq_of_lt hq, Nat.add_zero, show c + 1 - 1 = c by omega]
theorem near_core {B c q r : Nat} (hB : 1 < B) (q1 : q < 2 * B) (q2 : 0 < c → B ≤ q) (hR : r = q ∨ r = q + 1) : val B (c * B + r - 1) ≤ q * 2 ^ c ∧ (q + 1) * 2 ^ c ≤ val B (c * B + r + 1) := by
  have v0 := val_at hB (c := c) (R := q) (by omega) q2
  have v1 := val_at hB (c := c) (R := q + 1) (by omega) (fun h => Nat.le_succ_of_le (q2 h))
  constructor
  · rw [← v0]
    exact val_le hB (by omega)
  · rw [← v1]
    exact val_le hB (by omega)
/-- how many digits are cut off -/
def cutD (M d0 : Nat) : Nat := max (M.log2 - 52) d0
theorem min_lt_eq {a b y : Nat} (h : y = min a b) (hr : y < b) : y = a := by omega
theorem rung_eq {M d0 : Nat} (hM : M ≠ 0) (hr : rung M (-1074 - (d0 : Int)) < INF) : rung M (-1074 - (d0 : Int)) = (cutD M d0 - d0) * BB + R M (cutD M d0) := by
  have e := rung_low M (-1074 - (d0 : Int)) hM (by omega)
  rw [show (-1074 - (-1074 - (d0 : Int))).toNat = d0 by omega] at e
  have e' : rung M (-1074 - (d0 : Int)) = min ((cutD M d0 - d0) * BB + R M (cutD M d0)) INF := e
  exact min_lt_eq e' hr
theorem cut_bd {M d0 : Nat} (hM : M ≠ 0) : M / 2 ^ cutD M d0 < 2 * BB ∧ (0 < cutD M d0 - d0 → BB ≤ M / 2 ^ cutD M d0) := by
  have hDL : M.log2 - 52 ≤ cutD M d0 := Nat.le_max_left ..
  have hc : 0 < cutD M d0 - d0 → cutD M d0 = M.log2 - 52 := by unfold cutD; omega
  generalize cutD M d0 = D at *
  have hlt := lt_log M
  have hg : 0 < 2 ^ D := Nat.pow_pos (by omega)
  constructor
  · refine (Nat.div_lt_iff_lt_mul hg).2 (Nat.lt_of_lt_of_le hlt ?_)
    rw [show 2 * BB = 2 ^ 53 by decide, ← Nat.pow_add]
    exact Nat.pow_le_pow_right (by omega) (by omega)
  · intro h
    have hD := hc h
    refine (Nat.le_div_iff_mul_le hg).2 ?_
    rw [show BB = 2 ^ 52 by decide, ← Nat.pow_add]
    exact Nat.le_trans (Nat.pow_le_pow_right (by omega) (by omega)) (Nat.log2_self_le hM)
theorem near {M d0 : Nat} (hM : M ≠ 0) (hr : rung M (-1074 - (d0 : Int)) < INF) : val BB (rung M (-1074 - (d0 : Int)) - 1) * 2 ^ d0 ≤ M / 2 ^ cutD M d0 * 2 ^ cutD M d0 ∧ (M / 2 ^ cutD M d0 + 1) * 2 ^ cutD M d0 ≤ val BB (rung M (-1074 - (d0 : Int)) + 1) * 2 ^ d0 := by
  have e := rung_eq hM hr
  rw [e]
  obtain ⟨q1, q2⟩ := cut_bd (d0 := d0) hM
  have hD0 : d0 ≤ cutD M d0 := Nat.le_max_right ..
  obtain ⟨h1, h2⟩ := near_core BB1 q1 q2 (R_near M (cutD M d0))
  have hs : 2 ^ cutD M d0 = 2 ^ (cutD M d0 - d0) * 2 ^ d0 := by rw [← Nat.pow_add]; congr 1; omega
  generalize M / 2 ^ cutD M d0 = q at *
  rw [hs, ← Nat.mul_assoc, ← Nat.mul_assoc]
  exact ⟨Nat.mul_le_mul_right _ h1, Nat.mul_le_mul_right _ h2⟩
/-- .. at any place -/
theorem near_at {T : Nat} {p : Int} (hT : T ≠ 0) (hr : rung T p < INF) : ∃ D, (T * 2 ^ (p + 1074).toNat).log2 - 52 ≤ D ∧ val BB (rung T p - 1) * 2 ^ (-1074 - p).toNat ≤ T * 2 ^ (p + 1074).toNat / 2 ^ D * 2 ^ D ∧ (T * 2 ^ (p + 1074).toNat / 2 ^ D + 1) * 2 ^ D ≤ val BB (rung T p + 1) * 2 ^ (-1074 - p).toNat := by
  have hs := rung_scale T (p + 1074).toNat p
  have e : p - ((p + 1074).toNat : Int) = -1074 - ((-1074 - p).toNat : Int) := by omega
  rw [e] at hs
  rw [← hs] at hr ⊢
  have hk : 0 < 2 ^ (p + 1074).toNat := Nat.pow_pos (by omega)
  exact ⟨_, Nat.le_max_left _ _, near (Nat.mul_ne_zero hT (by omega)) hr⟩
theorem near_val {T : Nat} {p : Int} (hr : rung T p < INF) : val BB (rung T p - 1) * 2 ^ (-1074 - p).toNat ≤ T * 2 ^ (p + 1074).toNat ∧ T * 2 ^ (p + 1074).toNat ≤ val BB (rung T p + 1) * 2 ^ (-1074 - p).toNat := by
  by_cases h : T = 0
  · subst h
    unfold rung
    rw [if_pos rfl, Nat.zero_sub, val_zero BB1, Nat.zero_mul, Nat.zero_mul]
    exact ⟨Nat.le_refl _, Nat.zero_le _⟩
  · obtain ⟨D, _, h1, h2⟩ := near_at h hr
    refine ⟨Nat.le_trans h1 (Nat.div_mul_le_self _ _), Nat.le_trans (Nat.le_of_lt ?_) h2⟩
    generalize T * 2 ^ (p + 1074).toNat = M
    have := Nat.div_add_mod M (2 ^ D)
    have := Nat.mod_lt M (show 0 < 2 ^ D from Nat.pow_pos (by omega))
    rw [Nat.add_mul, Nat.one_mul, Nat.mul_comm (M / 2 ^ D)]
    omega
/-- with a last digit that tells whether something is left over -/
theorem near_sticky {Q s : Nat} {p : Int} (hs : s ≤ 1) (hQ : 2 ^ 52 ≤ Q) (hr : rung (2 * Q + s) p < INF) :
    val BB (rung (2 * Q + s) p - 1) * 2 ^ (-1074 - p).toNat ≤ 2 * Q * 2 ^ (p + 1074).toNat ∧ (2 * Q + 2 * s) * 2 ^ (p + 1074).toNat ≤ val BB (rung (2 * Q + s) p + 1) * 2 ^ (-1074 - p).toNat := by
  have h0 : 2 * Q + s ≠ 0 := by omega
  obtain ⟨D, hD, h1, h2⟩ := near_at h0 hr
  generalize (p + 1074).toNat = k at *
  rw [log2_scale _ _ h0] at hD
  have hl : 53 ≤ (2 * Q + s).log2 := (Nat.le_log2 h0).2 (by omega)
  obtain ⟨e, rfl⟩ : ∃ e, D = e + 1 + k := ⟨D - 1 - k, by omega⟩
  have hk : 0 < 2 ^ k := Nat.pow_pos (by omega)
  have hd : (2 * Q + s) * 2 ^ k / 2 ^ (e + 1 + k) = Q / 2 ^ e := by
    rw [Nat.pow_add 2 (e + 1) k, Nat.mul_div_mul_right _ _ hk, Nat.pow_succ, Nat.mul_comm (2 ^ e) 2, ← Nat.div_div_eq_div_mul]
    congr 1; omega
  rw [hd] at h1 h2
  have he : 2 ^ (e + 1 + k) = 2 ^ e * 2 * 2 ^ k := by rw [Nat.pow_add, Nat.pow_succ]
  rw [he] at h1 h2
  have hq := Nat.div_add_mod Q (2 ^ e)
  have hm := Nat.mod_lt Q (show 0 < 2 ^ e from Nat.pow_pos (by omega))
  refine ⟨Nat.le_trans h1 ?_, Nat.le_trans ?_ h2⟩
  · rw [← Nat.mul_assoc, ← Nat.mul_assoc]
    refine Nat.mul_le_mul_right _ ?_
    rw [Nat.mul_comm (Q / 2 ^ e)]
    omega
  · rw [← Nat.mul_assoc, ← Nat.mul_assoc]
    refine Nat.mul_le_mul_right _ ?_
    rw [Nat.add_mul, Nat.one_mul, Nat.mul_comm (Q / 2 ^ e)]
    omega
end Fp
