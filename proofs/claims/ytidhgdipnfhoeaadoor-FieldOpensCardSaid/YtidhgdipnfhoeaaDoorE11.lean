/-
  FieldOpens: the walk.
-/
import Derived.Test.YtidhgdipnfhoeaaDoorE10
namespace Go.Proofs.YtidhgdipnfhoeaaDoor
open Go Go.Ab
set_option maxRecDepth 100000
set_option maxHeartbeats 4000000 in
theorem opens_any (E : Errs) (a : Ras) (reach : Int) (hl : a.2.2.length ≤ 9223372036854775807) (hr : I64 reach) (hp : rerr a = 0 → 0 ≤ reach → reach ≤ 20 → OpensPlain a reach) (K : AV → List AO → Prop) (hK : K (.fz .bool true) []) :
    ACall Tryd.prog (GE E) 3 [.fptr RasT a, .fz int reach] [] K := by
  refine acall_mk (E := envAt (GE E) 228 0) (envOk _ _ _) Tryd.func3 rfl rfl rfl rfl rfl ?_
  (repeat' (first | exact trivial | exact fun h => h | refine And.intro ?_ ?_ | (intro hb; first | (simp at hb; done) | (simp at hb) | skip) | omega | exact rfl | exact Nat.le_refl _ | (show _ + 1 ≤ 4294967296; omega) | (dsimp only; omega) | (show wantB _ _ = true; simp; done) | (show wantB _ _ = true; simp; omega) | (show (_ : Bool) = _; simp_all; done) | (exfalso; omega) | refine aRegion_auto (by decide +kernel) ?_ | fail))
  refine acall_frame0 rfl (rasters_any E _ ?_)
  (repeat' (first | exact trivial | exact fun h => h | refine And.intro ?_ ?_ | (intro hb; first | (simp at hb; done) | (simp at hb) | skip) | omega | exact rfl | exact Nat.le_refl _ | (show _ + 1 ≤ 4294967296; omega) | (dsimp only; omega) | (show wantB _ _ = true; simp; done) | (show wantB _ _ = true; simp; omega) | (show (_ : Bool) = _; simp_all; done) | (exfalso; omega) | refine aRegion_auto (by decide +kernel) ?_ | fail))
  refine acall_frame0 rfl (small_any _ a _ ?_)
  (repeat' (first | exact trivial | exact fun h => h | refine And.intro ?_ ?_ | (intro hb; first | (simp at hb; done) | (simp at hb) | skip) | omega | exact rfl | exact Nat.le_refl _ | (show _ + 1 ≤ 4294967296; omega) | (dsimp only; omega) | (show wantB _ _ = true; simp; done) | (show wantB _ _ = true; simp; omega) | (show (_ : Bool) = _; simp_all; done) | (exfalso; omega) | refine aRegion_auto (by decide +kernel) ?_ | refine ⟨_, _, REnt.drop ⟨rfl, rfl⟩, ?_⟩ | fail))
  · refine acall_frame0 rfl (rasterError_any _ a (by omega) _ ?_)
    (repeat' (first | exact trivial | exact fun h => h | refine And.intro ?_ ?_ | (intro hb; first | (simp at hb; done) | (simp at hb) | skip) | omega | exact rfl | exact Nat.le_refl _ | (show _ + 1 ≤ 4294967296; omega) | (dsimp only; omega) | (show wantB _ _ = true; simp; done) | (show wantB _ _ = true; simp; omega) | (show (_ : Bool) = _; simp_all; done) | (exfalso; omega) | refine aRegion_auto (by decide +kernel) ?_ | refine ⟨_, _, REnt.drop ⟨rfl, rfl⟩, ?_⟩ | fail))
    · exact hK
    rename_i hok
    obtain ⟨h0, h1, h2⟩ : rerr a = 0 ∧ 0 ≤ reach ∧ reach ≤ 20 := by omega
    have ln : a.2.2.length ≤ 200 := by assumption
    have pl := hp h0 h1 h2
    obtain ⟨⟨hW1, hH1, hW2, hH2, hlen⟩, hbig⟩ := rerr_ok h0
    refine acall_frame0 rfl (open_to E a reach h0 h1 (by omega) pl.okmin (by omega) _ fun o ho => ?_)
    have lo : o.2.2.length = a.2.2.length := by rw [ho]; exact (onR_len pl.okmin).trans (onR_len h0)
    (repeat' (first | exact trivial | exact fun h => h | refine And.intro ?_ ?_ | (intro hb; first | (simp at hb; done) | (simp at hb) | skip) | omega | exact rfl | exact Nat.le_refl _ | (show _ + 1 ≤ 4294967296; omega) | (dsimp only; omega) | (show wantB _ _ = true; simp; done) | (show wantB _ _ = true; simp; omega) | (show (_ : Bool) = _; simp_all; done) | (exfalso; omega) | refine aRegion_auto (by decide +kernel) ?_ | refine ⟨_, _, REnt.drop ⟨rfl, rfl⟩, ?_⟩ | fail))
    refine acall_frame0 rfl (close_to E a reach h0 h1 (by omega) pl.okmax (by omega) _ fun c hc => ?_)
    have lc : c.2.2.length = a.2.2.length := by rw [hc]; exact (onR_len pl.okmax).trans (onR_len h0)
    (repeat' (first | exact trivial | exact fun h => h | refine And.intro ?_ ?_ | (intro hb; first | (simp at hb; done) | (simp at hb) | skip) | omega | exact rfl | exact Nat.le_refl _ | (show _ + 1 ≤ 4294967296; omega) | (dsimp only; omega) | (show wantB _ _ = true; simp; done) | (show wantB _ _ = true; simp; omega) | (show (_ : Bool) = _; simp_all; done) | (exfalso; omega) | refine aRegion_auto (by decide +kernel) ?_ | refine ⟨_, _, REnt.drop ⟨rfl, rfl⟩, ?_⟩ | fail))
    refine acall_conv [.dat RasT, .keep] _ _ _ rfl trivial (acall_frame0 rfl (open_to E o reach (by rw [ho]; exact pl.okopn) h1 (by omega) (by rw [ho]; exact pl.okmin2) (by omega) _ fun oo hoo => ?_))
    have loo : oo.2.2 = o.2.2 := by rw [hoo, ho]; exact pl.oo
    (repeat' (first | exact trivial | exact fun h => h | refine And.intro ?_ ?_ | (intro hb; first | (simp at hb; done) | (simp at hb) | skip) | omega | exact rfl | exact Nat.le_refl _ | (show _ + 1 ≤ 4294967296; omega) | (dsimp only; omega) | (show wantB _ _ = true; simp; done) | (show wantB _ _ = true; simp; omega) | (show (_ : Bool) = _; simp_all; done) | (exfalso; omega) | refine aRegion_auto (by decide +kernel) ?_ | refine ⟨_, _, REnt.drop ⟨rfl, rfl⟩, ?_⟩ | fail))
    refine acall_conv [.dat RasT, .keep] _ _ _ rfl trivial (acall_frame0 rfl (close_to E c reach (by rw [hc]; exact pl.okcls) h1 (by omega) (by rw [hc]; exact pl.okmax2) (by omega) _ fun cc hcc => ?_))
    have lcc : cc.2.2 = c.2.2 := by rw [hcc, hc]; exact pl.cc
    (repeat' (first | exact trivial | exact fun h => h | refine And.intro ?_ ?_ | (intro hb; first | (simp at hb; done) | (simp at hb) | skip) | omega | exact rfl | exact Nat.le_refl _ | (show _ + 1 ≤ 4294967296; omega) | (dsimp only; omega) | (show wantB _ _ = true; simp; done) | (show wantB _ _ = true; simp; omega) | (show (_ : Bool) = _; simp_all; done) | (exfalso; omega) | refine aRegion_auto (by decide +kernel) ?_ | refine ⟨_, _, REnt.drop ⟨rfl, rfl⟩, ?_⟩ | fail))
    (apply exEff; focus (repeat' (first | exact ⟨rfl, rfl⟩ | exact trivial | refine And.intro ?_ ?_ | omega | exact Nat.le_refl _ | (show _ + 1 ≤ 4294967296; omega))))
    (apply exEff; focus (repeat' (first | exact ⟨rfl, rfl⟩ | exact trivial | refine And.intro ?_ ?_ | omega | exact Nat.le_refl _ | (show _ + 1 ≤ 4294967296; omega))))
    (repeat' (first | exact trivial | exact fun h => h | refine And.intro ?_ ?_ | (intro hb; first | (simp at hb; done) | (simp at hb) | skip) | omega | exact rfl | exact Nat.le_refl _ | (show _ + 1 ≤ 4294967296; omega) | (dsimp only; omega) | (show wantB _ _ = true; simp; done) | (show wantB _ _ = true; simp; omega) | (show (_ : Bool) = _; simp_all; done) | (exfalso; omega) | refine aRegion_auto (by decide +kernel) ?_ | refine ⟨_, _, REnt.drop ⟨rfl, rfl⟩, ?_⟩ | fail))
    refine ⟨Nat, fun i => ⟨[(0, .fptr RasT a), (1, .fz int reach), (5, .fz .bool true), (7, .ptr 0 0), (8, .fz .raw .nilIface), (9, .ptr 1 0), (10, .fz .raw .nilIface), (11, .ptr 2 0), (12, .fz .raw .nilIface), (13, .ptr 3 0), (14, .fz .raw .nilIface), (15, .ptr 4 0), (16, .fz int i)], [.box [.fz int o.1, .fz int o.2.1, .fz (.list int) o.2.2], .box [.fz int c.1, .fz int c.2.1, .fz (.list int) c.2.2], .box [.fz int oo.1, .fz int oo.2.1, .fz (.list int) oo.2.2], .box [.fz int cc.1, .fz int cc.2.1, .fz (.list int) cc.2.2], .box [.fz int a.1, .fz int a.2.1, .ref 5 0 i], .row int (negL a.2.2 i)]⟩, fun i => i ≤ a.2.2.length, fun i => a.2.2.length - i, 0, Nat.zero_le _, (Ent.nilBox 4 2 int rfl rfl).trans (Ent.sub rfl ?_), ?_⟩
    · (repeat' (first | exact trivial | exact rfl | refine And.intro ?_ ?_))
    intro i hi
    have hai := getD_big hbig (Int.toNat (i : Int))
    have hli := negL_len hi
    (repeat' (first | exact trivial | exact fun h => h | refine And.intro ?_ ?_ | (intro hb; first | (simp at hb; done) | (simp at hb) | skip) | omega | exact rfl | exact Nat.le_refl _ | (show _ + 1 ≤ 4294967296; omega) | (dsimp only; omega) | (show wantB _ _ = true; simp; done) | (show wantB _ _ = true; simp; omega) | (show (_ : Bool) = _; simp_all; done) | (exfalso; omega) | refine aRegion_auto (by decide +kernel) ?_ | refine ⟨_, _, REnt.drop ⟨rfl, rfl⟩, ?_⟩ | fail))
    · (apply exEff; focus (repeat' (first | exact ⟨rfl, rfl⟩ | exact trivial | refine And.intro ?_ ?_ | omega | exact Nat.le_refl _ | (show _ + 1 ≤ 4294967296; omega))))
      (apply exEff; focus (repeat' (first | exact ⟨rfl, rfl⟩ | exact trivial | refine And.intro ?_ ?_ | omega | exact Nat.le_refl _ | (show _ + 1 ≤ 4294967296; omega))))
      (apply exEff; focus (repeat' (first | exact ⟨rfl, rfl⟩ | exact trivial | refine And.intro ?_ ?_ | omega | exact Nat.le_refl _ | (show _ + 1 ≤ 4294967296; omega))))
      (repeat' (first | exact trivial | exact fun h => h | refine And.intro ?_ ?_ | (intro hb; first | (simp at hb; done) | (simp at hb) | skip) | omega | exact rfl | exact Nat.le_refl _ | (show _ + 1 ≤ 4294967296; omega) | (dsimp only; omega) | (show wantB _ _ = true; simp; done) | (show wantB _ _ = true; simp; omega) | (show (_ : Bool) = _; simp_all; done) | (exfalso; omega) | refine aRegion_auto (by decide +kernel) ?_ | refine ⟨_, _, REnt.drop ⟨rfl, rfl⟩, ?_⟩ | fail))
      refine ⟨i + 1, by show _ ≤ _; omega, by show _ - _ < _ - _; omega, Ent.ren [0, 1, 2, 3, 4, 7] rfl ?_ ?_⟩
      · (repeat' (first | exact trivial | exact rfl | refine And.intro ?_ ?_))
        exact congrArg (fun l => some (AO.row int l)) (show List.take i (negL a.2.2 i) ++ [0 - a.2.2.getD i 0] = negL a.2.2 (i + 1) by rw [List.take_of_length_le (by omega), negL_step (by omega)])
      · (repeat' (first | exact trivial | exact rfl | refine And.intro ?_ ?_))
    · have hi2 : i = a.2.2.length := by omega
      subst hi2
      refine acall_conv [.dat RasT, .keep] _ _ _ rfl ?_ (acall_frame0 rfl ?_)
      · (repeat' (first | exact trivial | refine And.intro ?_ ?_ | (show _ ≤ _; omega) | (show _ ≤ _; simp; done)))
      refine acall_arg (close_to E (neg a) reach pl.okneg h1 (by omega) pl.okneg2 (by show (List.map _ _).length ≤ _; rw [List.length_map]; omega) _ fun d hd => ?_) ?_
      · have ld : d.2.2.length = a.2.2.length := by rw [hd]; refine ((onR_len pl.okneg2).trans (onR_len pl.okneg)).trans ?_; show (List.map _ _).length = _; rw [List.length_map]
        (repeat' (first | exact trivial | exact fun h => h | refine And.intro ?_ ?_ | (intro hb; first | (simp at hb; done) | (simp at hb) | skip) | omega | exact rfl | exact Nat.le_refl _ | (show _ + 1 ≤ 4294967296; omega) | (dsimp only; omega) | (show wantB _ _ = true; simp; done) | (show wantB _ _ = true; simp; omega) | (show (_ : Bool) = _; simp_all; done) | (exfalso; omega) | refine aRegion_auto (by decide +kernel) ?_ | refine ⟨_, _, REnt.drop ⟨rfl, rfl⟩, ?_⟩ | fail))
        have bo := getD_big (rerr_ok (show rerr o = 0 by rw [ho]; exact pl.okopn)).2
        refine ⟨Nat, fun i => ⟨[(0, .fptr RasT a), (5, .fz .bool true), (7, .ptr 0 0), (9, .ptr 1 0), (11, .ptr 2 0), (13, .ptr 3 0), (17, .ptr 6 0), (19, .fz int i)], [.box [.fz int o.1, .fz int o.2.1, .fz (.list int) o.2.2], .box [.fz int c.1, .fz int c.2.1, .fz (.list int) c.2.2], .box [.fz int oo.1, .fz int oo.2.1, .fz (.list int) oo.2.2], .box [.fz int cc.1, .fz int cc.2.1, .fz (.list int) cc.2.2], .box [.fz int a.1, .fz int a.2.1, .ref 5 0 a.2.2.length], .dead, .box [.fz int d.1, .fz int d.2.1, .fz (.list int) d.2.2]]⟩, fun i => i ≤ a.2.2.length, fun i => a.2.2.length - i, 0, Nat.zero_le _, Ent.sub rfl ?_, ?_⟩
        · (repeat' (first | exact trivial | exact rfl | refine And.intro ?_ ?_))
        intro i hi
        have boi := bo (Int.toNat (i : Int))
        have f1 : i < a.2.2.length → (o.2.2[i]?.getD (Ty.dft int) : Int) ≤ a.2.2[i]?.getD (Ty.dft int) := fun h => by rw [ho]; exact pl.le i h
        have f2 : i < a.2.2.length → (a.2.2[i]?.getD (Ty.dft int) : Int) ≤ c.2.2[i]?.getD (Ty.dft int) := fun h => by rw [hc]; exact pl.ge i h
        have f3 : i < a.2.2.length → (d.2.2[i]?.getD (Ty.dft int) : Int) = 0 - o.2.2[i]?.getD (Ty.dft int) := fun h => by rw [hd, ho]; exact pl.dn i h
        have g1 : isB oo o.1 o.2.1 o.2.2 = true := by unfold isB; rw [loo, hoo]; simp [opn, onR]
        have g2 : isB cc c.1 c.2.1 c.2.2 = true := by unfold isB; rw [lcc, hcc]; simp [cls, onR]
        (repeat' (first | exact trivial | exact fun h => h | refine And.intro ?_ ?_ | (intro hb; first | (simp at hb; done) | (simp at hb) | skip) | omega | exact rfl | exact Nat.le_refl _ | (show _ + 1 ≤ 4294967296; omega) | (dsimp only; omega) | (show wantB _ _ = true; simp; done) | (show wantB _ _ = true; simp; omega) | (show (_ : Bool) = _; simp_all; done) | (exfalso; omega) | refine aRegion_auto (by decide +kernel) ?_ | refine ⟨_, _, REnt.drop ⟨rfl, rfl⟩, ?_⟩ | fail))
        · refine ⟨i + 1, by show _ ≤ _; omega, by show _ - _ < _ - _; omega, Ent.sub rfl ?_⟩
          (repeat' (first | exact trivial | exact rfl | refine And.intro ?_ ?_))
        · refine acall_conv [.dat RasT, .keep, .keep, .keep] _ _ _ rfl trivial (acall_frame0 rfl (is_any _ oo o.1 o.2.1 o.2.2 (by rw [loo]; omega) _ ?_))
          rw [g1]
          (repeat' (first | exact trivial | exact fun h => h | refine And.intro ?_ ?_ | (intro hb; first | (simp at hb; done) | (simp at hb) | skip) | omega | exact rfl | exact Nat.le_refl _ | (show _ + 1 ≤ 4294967296; omega) | (dsimp only; omega) | (show wantB _ _ = true; simp; done) | (show wantB _ _ = true; simp; omega) | (show (_ : Bool) = _; simp_all; done) | (exfalso; omega) | refine aRegion_auto (by decide +kernel) ?_ | refine ⟨_, _, REnt.drop ⟨rfl, rfl⟩, ?_⟩ | fail))
          refine acall_conv [.dat RasT, .keep, .keep, .keep] _ _ _ rfl trivial (acall_frame0 rfl (is_any _ cc c.1 c.2.1 c.2.2 (by rw [lcc]; omega) _ ?_))
          rw [g2]
          (repeat' (first | exact trivial | exact fun h => h | refine And.intro ?_ ?_ | (intro hb; first | (simp at hb; done) | (simp at hb) | skip) | omega | exact rfl | exact Nat.le_refl _ | (show _ + 1 ≤ 4294967296; omega) | (dsimp only; omega) | (show wantB _ _ = true; simp; done) | (show wantB _ _ = true; simp; omega) | (show (_ : Bool) = _; simp_all; done) | (exfalso; omega) | refine aRegion_auto (by decide +kernel) ?_ | refine ⟨_, _, REnt.drop ⟨rfl, rfl⟩, ?_⟩ | fail))
          exact hK
      · have e1 : neg a = (a.1, a.2.1, List.take a.2.2.length (negL a.2.2 a.2.2.length)) := by
          unfold neg negL; rw [List.take_length, List.take_of_length_le (by simp)]
        exact congrArg (fun x => [AV.fz RasT x, AV.fz int reach]) e1
  · exact hK
end Go.Proofs.YtidhgdipnfhoeaaDoor
