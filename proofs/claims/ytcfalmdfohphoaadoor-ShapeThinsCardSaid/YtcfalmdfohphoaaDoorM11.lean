/-
  Faces: the walk.
-/
import Derived.Test.YtcfalmdfohphoaaDoorM10
import Derived.Test.YtcfalmdfohphoaaDoorChecked
import Derived.WalkKit
import Derived.ProofKit
import Derived.OpenShut
import Derived.Carry
import Derived.Test.YtcfalmdfohphoaaDoorTie
import Derived.Test.YtcfalmdfohphoaaDoorCards
import Derived.SevenTiedAt
import Derived.LaidMore
import Derived.Lay
import Derived.Deep.Slices
import Derived.Lib.SmallJoins
import Derived.Stop.Joined
namespace Go.Proofs.YtcfalmdfohphoaaDoor
open Go Go.Ab Mp
set_option maxRecDepth 100000
theorem in_same {bm clk : Nat} {S : List (Nat × Int × Int)} (f : Nat → Nat) : mapO f (inO bm clk S) = inO bm clk S := mpK_same (t := int) (g := fun v => v) f
theorem in_ok {bm clk n : Nat} {S : List (Nat × Int × Int)} : okLB n (inO bm clk S).vals = true := mpK_ok (kv := kvI) (t := int) (g := fun v => v)
theorem zero_intI (c : Cx) : ∃ zv, (zeroValue 3).run Tryd.prog c.w = .ok zv c.w ∧ Rel c (.fz (.int .i64) (0 : Int)) zv := zero_int c
theorem right_of {m : Shp.Arcs} (h : Shp.vE ngB m = 0) : MB m ∧ Shp.Right m := by
  obtain ⟨⟨h1, h2⟩, h3, h4, h5⟩ := Shp.vE_zero h
  have B := MB_of h1 h2 h3
  refine ⟨B, B.two, fun i hi e => ?_, fun i k ⟨h6, h7⟩ => ((Shp.badA_iff _ _).1 (h3 i h6)).2.2.2 k h7, h4, h5⟩
  have := ((Shp.badA_iff _ _).1 (h3 i hi)).2.2.1
  exact Nat.le_of_not_lt fun c => this ⟨e, c⟩
set_option maxHeartbeats 8000000 in
theorem faces_any (E : Errs) (m : Shp.Arcs) (hl : m.length ≤ 1000000000000000) (hlen : ∀ i, i < m.length → (Shp.arc m i).length ≤ 8796093022208) (K : AV → List AO → Prop)
    (hK0 : Shp.vE ngB m = 0 → K (.tup [.fz (.list (.list int)) (Shp.rounds (Shp.nof m) m.length), .fz .raw .nilIface]) [])
    (hK1 : Shp.vE ngB m ≠ 0 → K (.tup [.nilSl, .fz .raw (er E (Shp.vE ngB m))]) []) : ACall Tryd.prog (G8 E) 10 [.fz MpT m] [] K := by
  refine acall_mk (E := envCut (G8 E) 62 0 [13]) (envCutOk _ _ _ _) Tryd.func10 rfl rfl rfl rfl rfl ?_
  refine acall_conv [.dat MpT] _ _ _ rfl trivial (acall_frame0 rfl (valid_any E m hl hlen _ ?_))
  by_cases hv : Shp.vE ngB m = 0
  · have hK := hK0 hv
    obtain ⟨B, R⟩ := right_of hv
    rw [hv]
    have hfew := B.few
    have hnf := Shp.nof_way (m := m)
    have hrc := fun (nf' : Int → Int) (h : ∀ w, w ≠ 0 ∧ w.natAbs ≤ m.length → Shp.nof m w = nf' w) => Shp.rounds_congr (n := m.length) hnf h
    (repeat' (first | exact trivial | refine And.intro ?_ ?_ | (intro hb; try simp at hb) | omega | exact rfl | refine aRegion_auto (by decide +kernel) ?_ | fail))
    refine acall_conv [.dat MpT] _ _ _ rfl trivial (acall_frame0 rfl (nexts_any _ m B R _ fun bm clk NS hM hN => ?_))
    refine force_of _ _ _ ?_
    show aOps _ _ _ _ _ _ _ [.box [.fz (.list (.list SpT)) m], mapO _ (inO bm clk NS)] _
    rw [in_same]
    refine aact_make fun bm2 => ?_
    (repeat' (first | exact trivial | refine And.intro ?_ ?_ | (intro hb; try simp at hb) | omega | exact rfl | refine aRegion_auto (by decide +kernel) ?_ | fail))
    (repeat' (first | exact trivial | refine And.intro ?_ ?_ | (intro hb; try simp at hb) | omega | exact rfl | refine aRegion_auto (by decide +kernel) ?_ | fail))
    obtain ⟨n, hn⟩ : ∃ n, m.length = n := ⟨_, rfl⟩
    obtain ⟨nf, hnn⟩ : ∃ nf : Int → Int, nf = fun v => gv NS v 0 := ⟨_, rfl⟩
    have hnv : ∀ v, gv NS v 0 = nf v := fun v => by rw [hnn]
    have hnw : ∀ v, v ≠ 0 ∧ v.natAbs ≤ n → Shp.nof m v = nf v := fun v hv => by rw [hnn]; exact (hN v ⟨hv.1, by rw [hn]; exact hv.2⟩).symm
    have hR := hrc nf (fun w hw => hnw w (by rw [← hn]; exact hw))
    rw [hn] at hnf hR hK hfew
    rw [hR] at hK
    have hnf2 : Shp.ways n nf := fun w hw => by rw [← hnw w hw]; exact hnf w hw
    clear hrc hR
    have hig : ∀ v : Int, v.natAbs ≤ n → iG v := fun v hv => by unfold iG; omega
    refine ⟨Nat × (List (List Int) × List Int) × Nat × List (Nat × Int × Int), fun x => ⟨[(5, .ptr 0 0), (6, .ptr 1 0), (7, .ref 2 0 x.2.1.1.length), (22, .fz (.list (.list SpT)) m), (23, .fz int m.length), (24, .fz int x.1)], [inO bm clk NS, inO bm2 x.2.2.1 x.2.2.2, .row (.list int) x.2.1.1]⟩, fun x => x.1 ≤ n ∧ (x.2.1 = Shp.rF nf n x.1 0 ∧ Shp.Gn n x.2.1.2 ∧ x.2.1.1.length ≤ 2 * x.1) ∧ MO iG x.2.2.1 x.2.2.2 ∧ ∀ v, gv x.2.2.2 v 0 = if v ∈ x.2.1.2 then 1 else 0, fun x => n - x.1, (0, ([], []), 0, []), ⟨Nat.zero_le _, ⟨rfl, ⟨List.nodup_nil, fun v h => by cases h⟩, Nat.le_refl _⟩, MO.nil, fun v => by simp [gv]⟩, (Ent.nil 7 (.list int) rfl).trans (Ent.ren [1, 2, 3] rfl ?_ ?_), ?_⟩
    · (repeat' (first | exact trivial | exact rfl | refine And.intro ?_ ?_))
      · exact congrArg some (in_same _).symm
      · exact in_ok (bm := bm) (clk := clk)
    · (repeat' (first | exact trivial | exact rfl | refine And.intro ?_ ?_))
    rintro ⟨i, ⟨o, g⟩, c2, GS⟩ ⟨hi, ⟨hst, hg, hol⟩, hM2, hG⟩
    have hi : i ≤ n := hi
    have hst : (o, g) = Shp.rF nf n i 0 := hst
    have hg : Shp.Gn n g := hg
    have hol : o.length ≤ 2 * i := hol
    have hM2 : MO iG c2 GS := hM2
    have hG : ∀ v, gv GS v 0 = if v ∈ g then 1 else 0 := hG
    show awp _ _ _ ⟨[(5, .ptr 0 0), (6, .ptr 1 0), (7, .ref 2 0 o.length), (22, .fz (.list (.list SpT)) m), (23, .fz int m.length), (24, .fz int i)], [inO bm clk NS, inO bm2 c2 GS, .row (.list int) o]⟩
    by_cases hin : i < n
    · (repeat' (first | exact trivial | exact fun h => h | refine And.intro ?_ ?_ | (intro hb; try simp at hb) | omega | exact rfl | exact Nat.le_refl _ | (show _ + 1 ≤ 4294967296; omega) | (show _ + 1 ≤ 5864062014634; omega) | (dsimp only; omega) | (show (_ : Int) ≤ (_ : Int); omega) | (show _ < List.length _; simp only [List.length_set, List.length_append, List.length_take]; omega) | (show wantB _ _ = true; simp <;> omega) | (show (_ : Bool) = _; simp_all; done) | (exfalso; omega) | refine aRegion_auto (by decide +kernel) ?_ | fail))
      refine ⟨Nat × (List (List Int) × List Int) × Nat × List (Nat × Int × Int), fun x => ⟨[(5, .ptr 0 0), (6, .ptr 1 0), (7, .ref 2 0 x.2.1.1.length), (22, .fz (.list (.list SpT)) m), (23, .fz int m.length), (24, .fz int i), (32, .agg [.fz int ((i : Int) + 1), .fz int (-((i : Int) + 1))]), (33, .fz int x.1)], [inO bm clk NS, inO bm2 x.2.2.1 x.2.2.2, .row (.list int) x.2.1.1]⟩, fun x => x.1 ≤ 2 ∧ (x.2.1 = Shp.rF nf n i x.1 ∧ Shp.Gn n x.2.1.2 ∧ x.2.1.1.length ≤ 2 * i + x.1) ∧ MO iG x.2.2.1 x.2.2.2 ∧ ∀ v, gv x.2.2.2 v 0 = if v ∈ x.2.1.2 then 1 else 0, fun x => 2 - x.1, (0, (o, g), c2, GS), ⟨Nat.zero_le _, ⟨hst, hg, hol⟩, hM2, hG⟩, Ent.sub rfl ?_, ?_⟩
      · (repeat' (first | exact trivial | exact rfl | refine And.intro ?_ ?_))
        exact congrArg (fun z => AV.agg [.fz int ((i : Int) + 1), .fz int z]) (show (0 : Int) - (i : Int) - 1 = -((i : Int) + 1) by omega)
      rintro ⟨j, ⟨o, g⟩, c2, GS⟩ ⟨hj2, ⟨hst, hg, hol⟩, hM2, hG⟩
      have hj2 : j ≤ 2 := hj2
      have hst : (o, g) = Shp.rF nf n i j := hst
      have hg : Shp.Gn n g := hg
      have hol : o.length ≤ 2 * i + j := hol
      have hM2 : MO iG c2 GS := hM2
      have hG : ∀ v, gv GS v 0 = if v ∈ g then 1 else 0 := hG
      show awp _ _ _ ⟨[(5, .ptr 0 0), (6, .ptr 1 0), (7, .ref 2 0 o.length), (22, .fz (.list (.list SpT)) m), (23, .fz int m.length), (24, .fz int i), (32, .agg [.fz int ((i : Int) + 1), .fz int (-((i : Int) + 1))]), (33, .fz int j)], [inO bm clk NS, inO bm2 c2 GS, .row (.list int) o]⟩
      by_cases hj : j < 2
      · obtain ⟨w, hw0, hw1, hwb, hwn⟩ : ∃ w : Int, (j = 0 → w = (i : Int) + 1) ∧ (j = 1 → w = -((i : Int) + 1)) ∧ w.natAbs = i + 1 ∧ Shp.rF nf n i (j + 1) = Shp.rst nf n (o, g) w := by
          rcases (by omega : j = 0 ∨ j = 1) with rfl | rfl
          · exact ⟨(i : Int) + 1, fun _ => rfl, fun h => by omega, by omega, by rw [hst, Shp.rF_one]⟩
          · exact ⟨-((i : Int) + 1), fun h => by omega, fun _ => rfl, by omega, by rw [hst, Shp.rF_last]⟩
        have hway : w ≠ 0 ∧ w.natAbs ≤ n := ⟨by omega, by omega⟩
        have hgl := hg.len
        obtain ⟨z, hz⟩ : ∃ z : Int, (j : Int) = z := ⟨_, rfl⟩
        rw [hz]
        apply merge
        · intro hc
          rcases (by omega : j = 0 ∨ j = 1) with hj0 | hj0
          · have hw := hw0 hj0
            obtain rfl : z = 0 := by omega
            (repeat' (first | exact trivial | exact fun h => h | refine And.intro ?_ ?_ | (intro hb; try simp at hb) | omega | exact rfl | exact Nat.le_refl _ | (show _ + 1 ≤ 4294967296; omega) | (show _ + 1 ≤ 5864062014634; omega) | (dsimp only; omega) | (show (_ : Int) ≤ (_ : Int); omega) | (show _ < List.length _; simp only [List.length_set, List.length_append, List.length_take]; omega) | (show wantB _ _ = true; simp <;> omega) | (show (_ : Bool) = _; simp_all; done) | (exfalso; omega) | refine aRegion_auto (by decide +kernel) ?_ | fail))
            refine ⟨[(5, .ptr 0 0), (6, .ptr 1 0), (7, .ref 2 0 o.length), (22, .fz (.list (.list SpT)) m), (23, .fz int m.length), (24, .fz int i), (10, .fz int w), (32, .agg [.fz int ((i : Int) + 1), .fz int (-((i : Int) + 1))]), (33, .fz int j)], [inO bm clk NS, inO bm2 c2 GS, .row (.list int) o], Ent.sub rfl ?_, hc.out⟩
            (repeat' (first | exact trivial | exact rfl | refine And.intro ?_ ?_))
            · exact congrArg (fun z => AV.fz int z) hw.symm
            · exact congrArg (fun z => AV.fz int z) hz.symm
          · have hw := hw1 hj0
            obtain rfl : z = 1 := by omega
            (repeat' (first | exact trivial | exact fun h => h | refine And.intro ?_ ?_ | (intro hb; try simp at hb) | omega | exact rfl | exact Nat.le_refl _ | (show _ + 1 ≤ 4294967296; omega) | (show _ + 1 ≤ 5864062014634; omega) | (dsimp only; omega) | (show (_ : Int) ≤ (_ : Int); omega) | (show _ < List.length _; simp only [List.length_set, List.length_append, List.length_take]; omega) | (show wantB _ _ = true; simp <;> omega) | (show (_ : Bool) = _; simp_all; done) | (exfalso; omega) | refine aRegion_auto (by decide +kernel) ?_ | fail))
            refine ⟨[(5, .ptr 0 0), (6, .ptr 1 0), (7, .ref 2 0 o.length), (22, .fz (.list (.list SpT)) m), (23, .fz int m.length), (24, .fz int i), (10, .fz int w), (32, .agg [.fz int ((i : Int) + 1), .fz int (-((i : Int) + 1))]), (33, .fz int j)], [inO bm clk NS, inO bm2 c2 GS, .row (.list int) o], Ent.sub rfl ?_, hc.out⟩
            (repeat' (first | exact trivial | exact rfl | refine And.intro ?_ ?_))
            · exact congrArg (fun z => AV.fz int z) hw.symm
            · exact congrArg (fun z => AV.fz int z) hz.symm
        clear hz
        (repeat' (first | exact trivial | exact fun h => h | refine And.intro ?_ ?_ | (intro hb; try simp at hb) | omega | exact rfl | exact Nat.le_refl _ | (show _ + 1 ≤ 4294967296; omega) | (show _ + 1 ≤ 5864062014634; omega) | (dsimp only; omega) | (show (_ : Int) ≤ (_ : Int); omega) | (show _ < List.length _; simp only [List.length_set, List.length_append, List.length_take]; omega) | (show wantB _ _ = true; simp <;> omega) | (show (_ : Bool) = _; simp_all; done) | (exfalso; omega) | refine aRegion_auto (by decide +kernel) ?_ | fail))
        refine ⟨(List Int × Int) × Nat × List (Nat × Int × Int), fun x => ⟨[(5, .ptr 0 0), (6, .ptr 1 0), (7, .ref 2 0 o.length), (22, .fz (.list (.list SpT)) m), (23, .fz int m.length), (24, .fz int i), (11, .ref 3 0 x.1.1.length), (12, .fz int x.1.2), (32, .agg [.fz int ((i : Int) + 1), .fz int (-((i : Int) + 1))]), (33, .fz int j)], [inO bm clk NS, inO bm2 x.2.1 x.2.2, .row (.list int) o, .row int x.1.1]⟩, fun x => Shp.RH nf n g w x.1.1 x.1.2 ∧ MO iG x.2.1 x.2.2 ∧ ∀ v, gv x.2.2 v 0 = if v ∈ x.1.1.reverse ++ g then 1 else 0, fun x => 2 * n + 1 - x.1.1.length, (([], w), c2, GS), ⟨Shp.RH.start hg hway, hM2, hG⟩, (Ent.nil 11 int rfl).trans (Ent.sub rfl ?_), ?_⟩
        · (repeat' (first | exact trivial | exact rfl | refine And.intro ?_ ?_))
        rintro ⟨⟨l, v⟩, c2, GS⟩ ⟨hR, hM2, hG⟩
        have hR : Shp.RH nf n g w l v := hR
        have hM2 : MO iG c2 GS := hM2
        have hG : ∀ v, gv GS v 0 = if v ∈ l.reverse ++ g then 1 else 0 := hG
        have hRl := hR.len
        have hRw := hR.way
        have hvG := hig v hRw.2
        show awp _ _ _ ⟨[(5, .ptr 0 0), (6, .ptr 1 0), (7, .ref 2 0 o.length), (22, .fz (.list (.list SpT)) m), (23, .fz int m.length), (24, .fz int i), (11, .ref 3 0 l.length), (12, .fz int v), (32, .agg [.fz int ((i : Int) + 1), .fz int (-((i : Int) + 1))]), (33, .fz int j)], [inO bm clk NS, inO bm2 c2 GS, .row (.list int) o, .row int l]⟩
        refine aact_lookG v (d := (0 : Int)) (tok := 1) (off := 0) (bm := bm2) (clk := c2) (S := GS) rfl rfl hM2 Tryd.underlying56 keyedI kvI_in iG_ok rel_kvI hvG zero_intI ?_
        rw [hG v]
        by_cases hvm : v ∈ l.reverse ++ g
        · have hdn := hR.done hvm
          have hrs : Shp.rF nf n i (j + 1) = (o ++ Shp.ad l, l.reverse ++ g) := by
            rw [hwn]; unfold Shp.rst; rw [hdn]
          have hgn := hR.gn
          rw [if_pos hvm]
          (repeat' (first | exact trivial | exact fun h => h | refine And.intro ?_ ?_ | (intro hb; try simp at hb) | omega | exact rfl | exact Nat.le_refl _ | (show _ + 1 ≤ 4294967296; omega) | (show _ + 1 ≤ 5864062014634; omega) | (dsimp only; omega) | (show (_ : Int) ≤ (_ : Int); omega) | (show _ < List.length _; simp only [List.length_set, List.length_append, List.length_take]; omega) | (show wantB _ _ = true; simp <;> omega) | (show (_ : Bool) = _; simp_all; done) | (exfalso; omega) | refine aRegion_auto (by decide +kernel) ?_ | fail))
          · have hl0 : l ≠ [] := fun e => by rw [e] at hb; simp at hb
            have had : Shp.ad l = [l] := by unfold Shp.ad; rw [if_neg hl0]
            rw [had] at hrs
            refine ⟨(j + 1, (o ++ [l], l.reverse ++ g), c2, GS), ⟨by show j + 1 ≤ 2; omega, ⟨hrs.symm, hgn, by show (o ++ [l]).length ≤ 2 * i + (j + 1); rw [List.length_append, List.length_singleton]; omega⟩, hM2, hG⟩, by show 2 - (j + 1) < 2 - j; omega, Ent.ren [0, 1, 5] rfl ?_ ?_⟩
            · (repeat' (first | exact trivial | exact rfl | refine And.intro ?_ ?_))
              · exact congrArg some (in_same (bm := bm) (clk := clk) (S := NS) _).symm
              · exact in_ok (bm := bm) (clk := clk)
              · exact congrArg some (in_same (bm := bm2) (clk := c2) (S := GS) _).symm
              · exact in_ok (bm := bm2) (clk := c2)
              · refine congrArg (fun l => some (AO.row (.list int) l)) (?_ : List.take o.length o ++ [List.take l.length (List.drop 0 l)] = o ++ [l])
                rw [List.take_length, List.drop_zero, List.take_length]
            · (repeat' (first | exact trivial | exact rfl | refine And.intro ?_ ?_))
              exact congrArg (AV.ref 5 0) (show o.length + 1 = (o ++ [l]).length by simp)
          · have had : Shp.ad l = [] := by unfold Shp.ad; rw [if_pos hb]
            rw [had, List.append_nil] at hrs
            refine ⟨(j + 1, (o, l.reverse ++ g), c2, GS), ⟨by show j + 1 ≤ 2; omega, ⟨hrs.symm, hgn, by show o.length ≤ 2 * i + (j + 1); omega⟩, hM2, hG⟩, by show 2 - (j + 1) < 2 - j; omega, Ent.ren [0, 1, 2] rfl ?_ ?_⟩
            · (repeat' (first | exact trivial | exact rfl | refine And.intro ?_ ?_))
              · exact congrArg some (in_same (bm := bm) (clk := clk) (S := NS) _).symm
              · exact in_ok (bm := bm) (clk := clk)
              · exact congrArg some (in_same (bm := bm2) (clk := c2) (S := GS) _).symm
              · exact in_ok (bm := bm2) (clk := c2)
            · (repeat' (first | exact trivial | exact rfl | refine And.intro ?_ ?_))
        · have hnx := hR.next hnf2 hvm
          rw [if_neg hvm]
          (repeat' (first | exact trivial | exact fun h => h | refine And.intro ?_ ?_ | (intro hb; try simp at hb) | omega | exact rfl | exact Nat.le_refl _ | (show _ + 1 ≤ 4294967296; omega) | (show _ + 1 ≤ 5864062014634; omega) | (dsimp only; omega) | (show (_ : Int) ≤ (_ : Int); omega) | (show _ < List.length _; simp only [List.length_set, List.length_append, List.length_take]; omega) | (show wantB _ _ = true; simp <;> omega) | (show (_ : Bool) = _; simp_all; done) | (exfalso; omega) | refine aRegion_auto (by decide +kernel) ?_ | fail))
          refine aact_lookG v (d := (0 : Int)) (tok := 1) (off := 0) (bm := bm2) (clk := c2) (S := GS) rfl rfl hM2 Tryd.underlying56 keyedI kvI_in iG_ok rel_kvI hvG zero_intI ?_
          rw [hG v, if_neg hvm]
          (repeat' (first | exact trivial | exact fun h => h | refine And.intro ?_ ?_ | (intro hb; try simp at hb) | omega | exact rfl | exact Nat.le_refl _ | (show _ + 1 ≤ 4294967296; omega) | (show _ + 1 ≤ 5864062014634; omega) | (dsimp only; omega) | (show (_ : Int) ≤ (_ : Int); omega) | (show _ < List.length _; simp only [List.length_set, List.length_append, List.length_take]; omega) | (show wantB _ _ = true; simp <;> omega) | (show (_ : Bool) = _; simp_all; done) | (exfalso; omega) | refine aRegion_auto (by decide +kernel) ?_ | fail))
          refine aact_putG v (1 : Int) (tok := 1) (off := 0) (bm := bm2) (clk := c2) (S := GS) rfl rfl hM2 Tryd.underlying56 keyedI kvI_in iG_ok rel_kvI hvG rfl ?_
          (repeat' (first | exact trivial | exact fun h => h | refine And.intro ?_ ?_ | (intro hb; try simp at hb) | omega | exact rfl | exact Nat.le_refl _ | (show _ + 1 ≤ 4294967296; omega) | (show _ + 1 ≤ 5864062014634; omega) | (dsimp only; omega) | (show (_ : Int) ≤ (_ : Int); omega) | (show _ < List.length _; simp only [List.length_set, List.length_append, List.length_take]; omega) | (show wantB _ _ = true; simp <;> omega) | (show (_ : Bool) = _; simp_all; done) | (exfalso; omega) | refine aRegion_auto (by decide +kernel) ?_ | fail))
          refine aact_lookG v (d := (0 : Int)) (tok := 0) (off := 0) (bm := bm) (clk := clk) (S := NS) rfl rfl hM Tryd.underlying56 keyedI kvI_in iG_ok rel_kvI hvG zero_intI ?_
          rw [hnv v]
          (repeat' (first | exact trivial | refine And.intro ?_ ?_ | (intro hb; try simp at hb) | omega | exact rfl | refine aRegion_auto (by decide +kernel) ?_ | fail))
          refine ⟨((l ++ [v], nf v), cS GS c2 v, pS GS c2 v 1), ⟨hnx, hM2.put hvG _, fun u => ?_⟩, by show 2 * n + 1 - (l ++ [v]).length < 2 * n + 1 - l.length; rw [List.length_append, List.length_singleton]; omega, Ent.ren [0, 1, 2, 5] rfl ?_ ?_⟩
          · show gv (pS GS c2 v 1) u 0 = if u ∈ (l ++ [v]).reverse ++ g then 1 else 0
            rw [gv_put hM2, hG u]
            have e : (l ++ [v]).reverse ++ g = v :: (l.reverse ++ g) := by simp
            rw [e]
            by_cases c : u = v
            · rw [if_pos c, if_pos (by rw [c]; exact List.mem_cons_self ..)]
            · rw [if_neg c]
              by_cases d : u ∈ l.reverse ++ g
              · rw [if_pos d, if_pos (List.mem_cons_of_mem _ d)]
              · rw [if_neg d, if_neg (fun h => (List.mem_cons.1 h).elim c d)]
          · (repeat' (first | exact trivial | exact rfl | refine And.intro ?_ ?_))
            · exact congrArg some (in_same (bm := bm) (clk := clk) (S := NS) _).symm
            · exact in_ok (bm := bm) (clk := clk)
            · exact congrArg some (in_same (bm := bm2) (clk := cS GS c2 v) (S := pS GS c2 v 1) _).symm
            · exact in_ok (bm := bm2) (clk := cS GS c2 v)
            · refine congrArg (fun l => some (AO.row int l)) (?_ : List.take l.length l ++ [v] = l ++ [v])
              rw [List.take_length]
          · (repeat' (first | exact trivial | exact rfl | refine And.intro ?_ ?_))
            exact congrArg (AV.ref 5 0) (show l.length + 1 = (l ++ [v]).length by simp)
      · obtain rfl : j = 2 := by omega
        rw [Shp.rF_two] at hst
        (repeat' (first | exact trivial | refine And.intro ?_ ?_ | (intro hb; try simp at hb) | omega | exact rfl | refine aRegion_auto (by decide +kernel) ?_ | fail))
        refine ⟨(i + 1, (o, g), c2, GS), ⟨by show i + 1 ≤ n; omega, ⟨hst, hg, by show o.length ≤ 2 * (i + 1); omega⟩, hM2, hG⟩, by show n - (i + 1) < n - i; omega, Ent.sub rfl ?_⟩
        · (repeat' (first | exact trivial | exact rfl | refine And.intro ?_ ?_))
    · obtain rfl : i = n := by omega
      have ho : o = Shp.rounds nf i := by rw [← Shp.rF_rounds, ← hst]
      rw [← ho] at hK
      (repeat' (first | exact trivial | refine And.intro ?_ ?_ | (intro hb; try simp at hb) | omega | exact rfl | refine aRegion_auto (by decide +kernel) ?_ | fail))
      refine ⟨_, _, (REnt.conv [.dat (.list (.list int)), .keep] _ rfl ?_).trans (REnt.drop ⟨rfl, rfl⟩), ?_⟩
      · (repeat' (first | exact trivial | refine And.intro ?_ ?_ | (show _ ≤ _; omega) | (show _ ≤ _; simp; done)))
      · refine (congrArg (fun l => K (.tup [.fz (.list (.list int)) l, .fz .raw .nilIface]) []) (?_ : List.take o.length (List.drop 0 o) = o)).mpr hK
        rw [List.drop_zero, List.take_length]
  · have hK := hK1 hv
    have hle := Shp.vE_le ngB m
    obtain ⟨e, he⟩ : ∃ e, Shp.vE ngB m = e := ⟨_, rfl⟩
    rw [he] at hK hv hle ⊢
    have hd : e = 2 ∨ e = 3 ∨ e = 7 := by
      unfold Shp.vE at he
      split at he
      · omega
      · split at he
        · omega
        · split at he <;> omega
    rcases hd with rfl | rfl | rfl
    · (repeat' (first | exact trivial | refine And.intro ?_ ?_ | (intro hb; try simp at hb) | omega | exact rfl | refine aRegion_auto (by decide +kernel) ?_ | refine ⟨_, _, REnt.drop ⟨rfl, rfl⟩, ?_⟩ | fail))
      exact hK
    · (repeat' (first | exact trivial | refine And.intro ?_ ?_ | (intro hb; try simp at hb) | omega | exact rfl | refine aRegion_auto (by decide +kernel) ?_ | refine ⟨_, _, REnt.drop ⟨rfl, rfl⟩, ?_⟩ | fail))
      exact hK
    · (repeat' (first | exact trivial | refine And.intro ?_ ?_ | (intro hb; try simp at hb) | omega | exact rfl | refine aRegion_auto (by decide +kernel) ?_ | refine ⟨_, _, REnt.drop ⟨rfl, rfl⟩, ?_⟩ | fail))
      exact hK
end Go.Proofs.YtcfalmdfohphoaaDoor
/-
  What the laws on maps ask by the way: are there few arcs, a map drawn.
-/
namespace Go.Proofs.YtcfalmdfohphoaaDoor
open Go Go.Ab
set_option maxRecDepth 100000
/-- so few pieces that all can be looked at (or too many) -/
def fewA (m : Shp.Arcs) : Prop := (wr (Shp.tot m m.length) ≤ 60 ∧ m.length ≤ 70) ∨ (4000 < wr (Shp.tot m m.length) ∧ wr (Shp.tot m m.length) < 4100)
instance (m : Shp.Arcs) : Decidable (fewA m) := by unfold fewA; infer_instance
theorem fewArcs_any (G : List (Nat × Value)) (m : Shp.Arcs) (hl : m.length ≤ 1000000000000000) (K : AV → List AO → Prop) (hK : K (.fz .bool (decide (fewA m))) []) : ACall Tryd.prog G 8 [.fptr MpT m] [] K := by
  have hat : ∀ i : Nat, List.getD m (Int.toNat (i : Int)) SpT.list.dft = Shp.arc m i := fun i => rfl
  refine acall_mk (E := envAt G 44 0) (envOk _ _ _) Tryd.func8 rfl rfl rfl rfl rfl ?_
  (repeat' (first | exact trivial | refine And.intro ?_ ?_ | (intro hb; try simp at hb) | omega | exact rfl | refine aRegion_auto (by decide +kernel) ?_ | fail))
  refine ⟨Nat, fun i => ⟨[(0, .fptr MpT m), (3, .fz int (wr (Shp.tot m i))), (4, .fz int i), (1000003, .unk)], []⟩, fun i => i ≤ m.length, fun i => m.length - i, 0, Nat.zero_le _, Ent.sub rfl ?_, ?_⟩
  · (repeat' (first | exact trivial | exact rfl | refine And.intro ?_ ?_))
  intro i hi
  have hi : i ≤ m.length := hi
  obtain ⟨n, hn⟩ : ∃ n, Shp.tot m i = n := ⟨_, rfl⟩
  show awp _ _ _ ⟨[(0, .fptr MpT m), (3, .fz int (wr (Shp.tot m i))), (4, .fz int i), (1000003, .unk)], []⟩
  rw [hn]
  by_cases hil : i < m.length
  · obtain ⟨a, ha⟩ : ∃ a, Shp.arc m i = a := ⟨_, rfl⟩
    have hg := hat i
    have hnx := Shp.tot_next hil
    rw [ha] at hg hnx
    rw [hn] at hnx
    (repeat' (first | exact trivial | refine And.intro ?_ ?_ | (intro hb; try simp at hb) | omega | exact rfl | refine aRegion_auto (by decide +kernel) ?_ | fail))
    rw [hg]
    (repeat' (first | exact trivial | refine And.intro ?_ ?_ | (intro hb; try simp at hb) | omega | exact rfl | refine aRegion_auto (by decide +kernel) ?_ | fail))
    refine aact_addW (a := wr n) (b := (a.length : Int)) rfl rfl ?_
    rw [wr_add, ← hnx]
    (repeat' (first | exact trivial | refine And.intro ?_ ?_ | (intro hb; try simp at hb) | omega | exact rfl | refine aRegion_auto (by decide +kernel) ?_ | fail))
    refine aact_addW (a := (i : Int)) (b := 1) rfl rfl ?_
    rw [show IntKind.i64.wrap ((i : Int) + 1) = (i : Int) + 1 from I64.wrap (by unfold I64; omega)]
    (repeat' (first | exact trivial | refine And.intro ?_ ?_ | (intro hb; try simp at hb) | omega | exact rfl | refine aRegion_auto (by decide +kernel) ?_ | fail))
    refine ⟨i + 1, by show i + 1 ≤ m.length; omega, by show m.length - (i + 1) < m.length - i; omega, Ent.sub rfl ?_⟩
    · (repeat' (first | exact trivial | exact rfl | refine And.intro ?_ ?_))
  · obtain rfl : i = m.length := by omega
    have hfw : fewA m ↔ (wr n ≤ 60 ∧ m.length ≤ 70) ∨ (4000 < wr n ∧ wr n < 4100) := by unfold fewA; rw [hn]
    obtain ⟨s, hs⟩ : ∃ s, wr n = s := ⟨_, rfl⟩
    rw [hs] at hfw ⊢
    (repeat' (first | exact trivial | exact fun h => h | refine And.intro ?_ ?_ | (intro hb; try simp at hb) | omega | exact rfl | exact Nat.le_refl _ | (show _ + 1 ≤ 4294967296; omega) | (show _ + 1 ≤ 5864062014634; omega) | (dsimp only; omega) | (show (_ : Int) ≤ (_ : Int); omega) | (show _ < List.length _; simp only [List.length_set, List.length_append, List.length_take]; omega) | (show wantB _ _ = true; simp <;> omega) | (show (_ : Bool) = _; simp_all; done) | (exfalso; omega) | refine aRegion_auto (by decide +kernel) ?_ | refine ⟨_, _, REnt.drop ⟨rfl, rfl⟩, ?_⟩ | fail))
    refine kbl hK ?_
    have hfd : decide (fewA m) = decide ((s ≤ 60 ∧ m.length ≤ 70) ∨ (4000 < s ∧ s < 4100)) := decide_eq_decide.2 hfw
    rw [hfd]
    have c : decide ((m.length : Int) ≤ 70) = decide (m.length ≤ 70) := decide_eq_decide.2 (by omega)
    rw [Bool.eq_iff_iff]
    by_cases h1 : s ≤ 60 <;> by_cases h2 : m.length ≤ 70 <;> by_cases h3 : 4000 < s <;> by_cases h4 : s < 4100 <;> simp [c, h1, h2, h3, h4]
theorem fewNil_any (G : List (Nat × Value)) (K : AV → List AO → Prop) (hK : K (.fz .bool false) []) : ACall Tryd.prog G 8 [.fz .raw (.pointer none)] [] K := by
  refine acall_mk (E := envAt G 44 0) (envOk _ _ _) Tryd.func8 rfl rfl rfl rfl rfl ?_
  (repeat' (first | exact trivial | exact fun h => h | refine And.intro ?_ ?_ | (intro hb; try simp at hb) | omega | exact rfl | exact Nat.le_refl _ | (show _ + 1 ≤ 4294967296; omega) | (show _ + 1 ≤ 5864062014634; omega) | (dsimp only; omega) | (show (_ : Int) ≤ (_ : Int); omega) | (show _ < List.length _; simp only [List.length_set, List.length_append, List.length_take]; omega) | (show wantB _ _ = true; simp <;> omega) | (show (_ : Bool) = _; simp_all; done) | (exfalso; omega) | refine aRegion_auto (by decide +kernel) ?_ | refine ⟨_, _, REnt.drop ⟨rfl, rfl⟩, ?_⟩ | fail))
  exact hK
set_option maxHeartbeats 4000000 in
theorem drawn_any (G : List (Nat × Value)) (m : Shp.Arcs) (hl : m.length ≤ 5864062014634) (hlen : ∀ i, i < m.length → (Shp.arc m i).length ≤ 8796093022208) (K : AV → List AO → Prop) (hK : K (.fz MpT m) []) : ACall Tryd.prog G 11 [.fptr MpT m] [] K := by
  refine acall_mk (E := envAt G 31 0) (envOk _ _ _) Tryd.func11 rfl rfl rfl rfl rfl ?_
  (repeat' (first | exact trivial | exact fun h => h | refine And.intro ?_ ?_ | (intro hb; try simp at hb) | omega | exact rfl | exact Nat.le_refl _ | (show _ + 1 ≤ 4294967296; omega) | (show _ + 1 ≤ 5864062014634; omega) | (dsimp only; omega) | (show (_ : Int) ≤ (_ : Int); omega) | (show _ < List.length _; simp only [List.length_set, List.length_append, List.length_take]; omega) | (show wantB _ _ = true; simp <;> omega) | (show (_ : Bool) = _; simp_all; done) | (exfalso; omega) | refine aRegion_auto (by decide +kernel) ?_ | fail))
  refine ⟨Nat, fun i => ⟨[(0, .fptr MpT m), (2, .ptr 0 0), (3, .ptr 1 0), (4, .fz int i)], [.box [.nilSl], .box [.ref 2 0 (m.take i).length], .row (.list SpT) (m.take i)]⟩, fun i => i ≤ m.length, fun i => m.length - i, 0, Nat.zero_le _, (Ent.nilBox 1 0 (.list SpT) rfl rfl).trans (Ent.sub rfl ?_), ?_⟩
  · (repeat' (first | exact trivial | exact rfl | refine And.intro ?_ ?_))
  intro i hi
  have hi : i ≤ m.length := hi
  obtain ⟨o, ho⟩ : ∃ o, m.take i = o := ⟨_, rfl⟩
  have hol : o.length = i := by rw [← ho, List.length_take]; omega
  show awp _ _ _ ⟨[(0, .fptr MpT m), (2, .ptr 0 0), (3, .ptr 1 0), (4, .fz int i)], [.box [.nilSl], .box [.ref 2 0 (m.take i).length], .row (.list SpT) (m.take i)]⟩
  rw [ho]
  by_cases hil : i < m.length
  · obtain ⟨a, ha⟩ : ∃ a, Shp.arc m i = a := ⟨_, rfl⟩
    have hg : List.getD m (Int.toNat (i : Int)) SpT.list.dft = a := ha
    have hal := hlen i hil
    rw [ha] at hal
    have hal2 : (List.getD m (Int.toNat (i : Int)) SpT.list.dft).length ≤ 8796093022208 := by rw [hg]; exact hal
    have hnx : m.take (i + 1) = o ++ [a] := by
      rw [List.take_add_one, ho, List.getElem?_eq_getElem hil]
      have : m[i] = a := by rw [← ha]; unfold Shp.arc; rw [List.getD_eq_getElem?_getD, List.getElem?_eq_getElem hil]; rfl
      rw [this]; rfl
    have htl : List.take (List.getD m (Int.toNat (i : Int)) SpT.list.dft).length (List.drop 0 (List.getD m (Int.toNat (i : Int)) SpT.list.dft)) = a := by rw [hg, List.drop_zero, List.take_length]
    (repeat' (first | exact trivial | exact fun h => h | refine And.intro ?_ ?_ | (intro hb; try simp at hb) | omega | exact rfl | exact Nat.le_refl _ | (show _ + 1 ≤ 4294967296; omega) | (show _ + 1 ≤ 5864062014634; omega) | (dsimp only; omega) | (show (_ : Int) ≤ (_ : Int); omega) | (show _ < List.length _; simp only [List.length_set, List.length_append, List.length_take]; omega) | (show wantB _ _ = true; simp <;> omega) | (show (_ : Bool) = _; simp_all; done) | (exfalso; omega) | refine aRegion_auto (by decide +kernel) ?_ | fail))
    refine ⟨i + 1, by show i + 1 ≤ m.length; omega, by show m.length - (i + 1) < m.length - i; omega, Ent.ren [0, 1, 5] rfl ?_ ?_⟩
    · (repeat' (first | exact trivial | exact rfl | refine And.intro ?_ ?_))
      · exact congrArg (fun n : Nat => some (AO.box [.ref 5 0 n])) (show o.length + 1 = (m.take (i + 1)).length by rw [hnx]; simp)
      · refine congrArg (fun l => some (AO.row (.list SpT) l)) (?_ : List.take o.length o ++ [List.take (List.getD m (Int.toNat (i : Int)) SpT.list.dft).length (List.drop 0 (List.getD m (Int.toNat (i : Int)) SpT.list.dft))] = m.take (i + 1))
        rw [List.take_length, htl, hnx]
    · (repeat' (first | exact trivial | exact rfl | refine And.intro ?_ ?_))
  · obtain rfl : i = m.length := by omega
    rw [List.take_length] at ho
    subst ho
    (repeat' (first | exact trivial | exact fun h => h | refine And.intro ?_ ?_ | (intro hb; try simp at hb) | omega | exact rfl | exact Nat.le_refl _ | (show _ + 1 ≤ 4294967296; omega) | (show _ + 1 ≤ 5864062014634; omega) | (dsimp only; omega) | (show (_ : Int) ≤ (_ : Int); omega) | (show _ < List.length _; simp only [List.length_set, List.length_append, List.length_take]; omega) | (show wantB _ _ = true; simp <;> omega) | (show (_ : Bool) = _; simp_all; done) | (exfalso; omega) | refine aRegion_auto (by decide +kernel) ?_ | fail))
    refine ⟨_, _, (REnt.conv1 (.dat MpT) _ rfl ?_).trans (REnt.drop ⟨rfl, rfl⟩), ?_⟩
    · (repeat' (first | exact trivial | refine And.intro ?_ ?_ | (show _ ≤ _; omega) | (show _ ≤ _; simp; done)))
    · refine (congrArg (fun l => K (.fz MpT l) []) (?_ : List.take m.length (List.drop 0 m) = m)).mpr hK
      rw [List.drop_zero, List.take_length]
end Go.Proofs.YtcfalmdfohphoaaDoor
/-
  Is the package there: the walk.
-/
namespace Go.Proofs.YtcfalmdfohphoaaDoor
open Go Go.Ab
set_option maxRecDepth 100000
def mp0 : Shp.Arcs := [[(0, 0), (1, 0)]]
theorem mp0_arc : Shp.arc mp0 0 = [(0, 0), (1, 0)] := rfl
theorem mp0_ok : Shp.vE ngB mp0 = 0 := by
  refine Shp.vE_ok (by decide +kernel) (fun i hi => ?_) ⟨fun i k j n ⟨h1, h2⟩ ⟨h3, h4⟩ h5 => ?_, fun i t j u ⟨h1, h2⟩ h3 h4 => ?_⟩
  · obtain rfl : i = 0 := by have : i < 1 := hi; omega
    decide +kernel
  · have h1 : i < 1 := h1
    have h3 : j < 1 := h3
    obtain rfl : i = 0 := by omega
    obtain rfl : j = 0 := by omega
    have h2 : k + 1 < 2 := h2
    omega
  · have h1 : i < 1 := h1
    obtain rfl : i = 0 := by omega
    have h4 : t + 1 < 2 := h4
    omega
theorem mp0_rounds : Shp.rounds (Shp.nof mp0) mp0.length = [[1, -1]] := by decide +kernel
theorem mapped_any (E : Errs) (K : AV → List AO → Prop) (hK : K (.fz .bool true) []) : ACall Tryd.prog (G8 E) 7 [] [] K := by
  have hlen : ∀ i, i < mp0.length → (Shp.arc mp0 i).length ≤ 8796093022208 := fun i hi => by
    obtain rfl : i = 0 := by have : i < 1 := hi; omega
    decide +kernel
  refine acall_mk (E := envAt (G8 E) 26 0) (envOk _ _ _) Tryd.func7 rfl rfl rfl rfl rfl ?_
  (repeat' (first | exact trivial | exact fun h => h | refine And.intro ?_ ?_ | (intro hb; try simp at hb) | omega | exact rfl | exact Nat.le_refl _ | (show _ + 1 ≤ 4294967296; omega) | (show _ + 1 ≤ 5864062014634; omega) | (dsimp only; omega) | (show (_ : Int) ≤ (_ : Int); omega) | (show _ < List.length _; simp only [List.length_set, List.length_append, List.length_take]; omega) | (show wantB _ _ = true; simp <;> omega) | (show (_ : Bool) = _; simp_all; done) | (exfalso; omega) | refine aRegion_auto (by decide +kernel) ?_ | refine ⟨_, _, REnt.drop ⟨rfl, rfl⟩, ?_⟩ | fail))
  refine acall_conv [.dat MpT] _ _ _ rfl ?_ (acall_frame0 rfl (acall_arg (faces_any E mp0 (by decide) hlen _ (fun _ => ?_) (fun h => (h mp0_ok).elim)) rfl))
  · (repeat' (first | exact trivial | refine And.intro ?_ ?_ | (show _ ≤ _; omega) | (show _ ≤ _; simp; done)))
  · rw [mp0_rounds]
    (repeat' (first | exact trivial | exact fun h => h | refine And.intro ?_ ?_ | (intro hb; try simp at hb) | omega | exact rfl | exact Nat.le_refl _ | (show _ + 1 ≤ 4294967296; omega) | (show _ + 1 ≤ 5864062014634; omega) | (dsimp only; omega) | (show (_ : Int) ≤ (_ : Int); omega) | (show _ < List.length _; simp only [List.length_set, List.length_append, List.length_take]; omega) | (show wantB _ _ = true; simp <;> omega) | (show (_ : Bool) = _; simp_all; done) | (exfalso; omega) | refine aRegion_auto (by decide +kernel) ?_ | refine ⟨_, _, REnt.drop ⟨rfl, rfl⟩, ?_⟩ | fail))
    · show (0 : Int) < 1
      decide
    · exact hK
end Go.Proofs.YtcfalmdfohphoaaDoor
/-
  ShapeThins: the walk.
-/
namespace Go.Proofs.YtcfalmdfohphoaaDoor
open Go Go.Ab Mp
set_option maxRecDepth 100000
set_option maxHeartbeats 8000000 in
theorem shapeThins_any {E : Errs} (hE : (EL E).Nodup) (m : Shp.Arcs) (hl : m.length ≤ 5864062014634) (hlen : ∀ i, i < m.length → (Shp.arc m i).length ≤ 8796093022208) (most : Int) (hm1 : most ≤ 9223372036854775807) (K : AV → List AO → Prop) (hK : K (.fz .bool true) []) :
    ACall Tryd.prog (G8 E) 6 [.fptr MpT m, .fz int most] [] K := by
  have hl2 : m.length ≤ 1000000000000000 := by omega
  have hle := Shp.vE_le ngB m
  refine acall_mk (E := envAt (G8 E) 55 0) (envOk _ _ _) Tryd.func6 rfl rfl rfl rfl rfl ?_
  (repeat' (first | exact trivial | refine And.intro ?_ ?_ | (intro hb; try simp at hb) | omega | exact rfl | refine aRegion_auto (by decide +kernel) ?_ | refine ⟨_, _, REnt.drop ⟨rfl, rfl⟩, ?_⟩ | fail))
  refine acall_frame0 rfl (mapped_any E _ ?_)
  (repeat' (first | exact trivial | refine And.intro ?_ ?_ | (intro hb; try simp at hb) | omega | exact rfl | refine aRegion_auto (by decide +kernel) ?_ | refine ⟨_, _, REnt.drop ⟨rfl, rfl⟩, ?_⟩ | fail))
  refine acall_frame0 rfl (fewArcs_any _ m hl2 _ ?_)
  by_cases hf : fewA m
  case neg =>
    rw [decide_eq_false hf]
    (repeat' (first | exact trivial | refine And.intro ?_ ?_ | (intro hb; try simp at hb) | omega | exact rfl | refine aRegion_auto (by decide +kernel) ?_ | refine ⟨_, _, REnt.drop ⟨rfl, rfl⟩, ?_⟩ | fail))
    exact hK
  rw [decide_eq_true hf]
  (repeat' (first | exact trivial | refine And.intro ?_ ?_ | (intro hb; try simp at hb) | omega | exact rfl | refine aRegion_auto (by decide +kernel) ?_ | refine ⟨_, _, REnt.drop ⟨rfl, rfl⟩, ?_⟩ | fail))
  refine acall_frame0 rfl (drawn_any _ m hl hlen _ ?_)
  (repeat' (first | exact trivial | refine And.intro ?_ ?_ | (intro hb; try simp at hb) | omega | exact rfl | refine aRegion_auto (by decide +kernel) ?_ | refine ⟨_, _, REnt.drop ⟨rfl, rfl⟩, ?_⟩ | fail))
  refine acall_frame0 rfl (thin.thin_any E m most hl2 hlen _ (fun h => spareC h hm1) (fun h0 hm => ?_) (fun h0 hm => ?_) (fun h0 => ?_))
  · have hme := mapError_any (G8 E) m hl2 hlen
    rw [h0] at hme
    have hth := thinner_any (G8 E) m h0 most hm hm1
    have hbl := Shp.aL_keep (sp := Shp.spB most) (Shp.vE_keep ngB most) (Shp.all m + 1) m h0
    have hbl : Shp.vE ngB (Shp.thinned most m) = 0 := hbl
    have hsa := sameArcs_any (G8 E) (Shp.thinned most m) (by have := (Shp.vE_zero hbl).1.1; omega) (fun i hi => by have := thin.arc_le hbl hi; omega)
    generalize Shp.thinned most m = out at hth hsa
    clear hbl
    (repeat' (first | exact trivial | refine And.intro ?_ ?_ | (intro hb; try simp at hb) | omega | exact rfl | refine aRegion_auto (by decide +kernel) ?_ | refine ⟨_, _, REnt.drop ⟨rfl, rfl⟩, ?_⟩ | fail))
    refine acall_frame0 rfl (hme _ ?_)
    (repeat' (first | exact trivial | refine And.intro ?_ ?_ | (intro hb; try simp at hb) | omega | exact rfl | refine aRegion_auto (by decide +kernel) ?_ | refine ⟨_, _, REnt.drop ⟨rfl, rfl⟩, ?_⟩ | fail))
    apply exEff
    · refine ⟨fun _ => ?_, fun h => absurd h (by simp)⟩
      (repeat' (first | refine And.intro ?_ ?_ | exact rfl))
      refine acall_frame0 rfl (hth _ ?_)
      exact ⟨rfl, rfl⟩
    (repeat' (first | exact trivial | refine And.intro ?_ ?_ | (intro hb; try simp at hb) | omega | exact rfl | refine aRegion_auto (by decide +kernel) ?_ | refine ⟨_, _, REnt.drop ⟨rfl, rfl⟩, ?_⟩ | fail))
    apply exEff
    · refine ⟨fun _ => ?_, fun h => absurd h (by simp)⟩
      (repeat' (first | refine And.intro ?_ ?_ | exact rfl))
      refine acall_conv [.dat MpT, .keep] _ _ _ rfl ?_ (acall_frame0 rfl (hsa _ ?_))
      · (repeat' (first | exact trivial | refine And.intro ?_ ?_ | (show _ ≤ _; omega) | (show _ ≤ _; simp; done)))
      · exact ⟨rfl, rfl⟩
    (repeat' (first | exact trivial | refine And.intro ?_ ?_ | (intro hb; try simp at hb) | omega | exact rfl | refine aRegion_auto (by decide +kernel) ?_ | refine ⟨_, _, REnt.drop ⟨rfl, rfl⟩, ?_⟩ | fail))
    exact hK
  · have hme := mapError_any (G8 E) m hl2 hlen
    rw [h0] at hme
    (repeat' (first | exact trivial | refine And.intro ?_ ?_ | (intro hb; try simp at hb) | omega | exact rfl | refine aRegion_auto (by decide +kernel) ?_ | refine ⟨_, _, REnt.drop ⟨rfl, rfl⟩, ?_⟩ | fail))
    refine acall_frame0 rfl (hme _ ?_)
    (repeat' (first | exact trivial | refine And.intro ?_ ?_ | (intro hb; try simp at hb) | omega | exact rfl | refine aRegion_auto (by decide +kernel) ?_ | refine ⟨_, _, REnt.drop ⟨rfl, rfl⟩, ?_⟩ | fail))
    refine acall_frame0 rfl (coded_mercatorlaw5 hE (e := 3) (by omega) 3 _ ?_)
    rw [decide_eq_true (show (((3 : Nat) : Int)) = (3 : Int) from rfl)]
    (repeat' (first | exact trivial | refine And.intro ?_ ?_ | (intro hb; try simp at hb) | omega | exact rfl | refine aRegion_auto (by decide +kernel) ?_ | refine ⟨_, _, REnt.drop ⟨rfl, rfl⟩, ?_⟩ | fail))
    exact hK
  · have hme := mapError_any (G8 E) m hl2 hlen
    obtain ⟨e, he⟩ : ∃ e, Shp.vE ngB m = e := ⟨_, rfl⟩
    rw [he] at h0 hle hme ⊢
    have hcd := decide_eq_true (show ((e : Nat) : Int) = ((e : Nat) : Int) from rfl)
    (repeat' (first | exact trivial | refine And.intro ?_ ?_ | (intro hb; try simp at hb) | omega | exact rfl | refine aRegion_auto (by decide +kernel) ?_ | refine ⟨_, _, REnt.drop ⟨rfl, rfl⟩, ?_⟩ | fail))
    refine acall_frame0 rfl (hme _ ?_)
    (repeat' (first | exact trivial | refine And.intro ?_ ?_ | (intro hb; try simp at hb) | omega | exact rfl | refine aRegion_auto (by decide +kernel) ?_ | refine ⟨_, _, REnt.drop ⟨rfl, rfl⟩, ?_⟩ | fail))
    refine acall_frame0 rfl (coded_mercatorlaw5 hE (e := e) (by omega) (e : Nat) _ ?_)
    rw [hcd]
    (repeat' (first | exact trivial | refine And.intro ?_ ?_ | (intro hb; try simp at hb) | omega | exact rfl | refine aRegion_auto (by decide +kernel) ?_ | refine ⟨_, _, REnt.drop ⟨rfl, rfl⟩, ?_⟩ | fail))
    exact hK
end Go.Proofs.YtcfalmdfohphoaaDoor
/-
  ShapeThins at nil.
-/
namespace Go.Proofs.YtcfalmdfohphoaaDoor
open Go Go.Ab
set_option maxRecDepth 100000
theorem shapeThins_nil {E : Errs} (most : Int) (K : AV → List AO → Prop) (hK : K (.fz .bool true) []) :
    ACall Tryd.prog (G8 E) 6 [.fz .raw (.pointer none), .fz int most] [] K := by
  refine acall_mk (E := envAt (G8 E) 55 0) (envOk _ _ _) Tryd.func6 rfl rfl rfl rfl rfl ?_
  (repeat' (first | exact trivial | exact fun h => h | refine And.intro ?_ ?_ | (intro hb; try simp at hb) | omega | exact rfl | exact Nat.le_refl _ | (show _ + 1 ≤ 4294967296; omega) | (show _ + 1 ≤ 5864062014634; omega) | (dsimp only; omega) | (show (_ : Int) ≤ (_ : Int); omega) | (show _ < List.length _; simp only [List.length_set, List.length_append, List.length_take]; omega) | (show wantB _ _ = true; simp <;> omega) | (show (_ : Bool) = _; simp_all; done) | (exfalso; omega) | refine aRegion_auto (by decide +kernel) ?_ | refine ⟨_, _, REnt.drop ⟨rfl, rfl⟩, ?_⟩ | fail))
  refine acall_frame0 rfl (mapped_any E _ ?_)
  (repeat' (first | exact trivial | exact fun h => h | refine And.intro ?_ ?_ | (intro hb; try simp at hb) | omega | exact rfl | exact Nat.le_refl _ | (show _ + 1 ≤ 4294967296; omega) | (show _ + 1 ≤ 5864062014634; omega) | (dsimp only; omega) | (show (_ : Int) ≤ (_ : Int); omega) | (show _ < List.length _; simp only [List.length_set, List.length_append, List.length_take]; omega) | (show wantB _ _ = true; simp <;> omega) | (show (_ : Bool) = _; simp_all; done) | (exfalso; omega) | refine aRegion_auto (by decide +kernel) ?_ | refine ⟨_, _, REnt.drop ⟨rfl, rfl⟩, ?_⟩ | fail))
  refine acall_frame0 rfl (fewNil_any _ _ ?_)
  (repeat' (first | exact trivial | exact fun h => h | refine And.intro ?_ ?_ | (intro hb; try simp at hb) | omega | exact rfl | exact Nat.le_refl _ | (show _ + 1 ≤ 4294967296; omega) | (show _ + 1 ≤ 5864062014634; omega) | (dsimp only; omega) | (show (_ : Int) ≤ (_ : Int); omega) | (show _ < List.length _; simp only [List.length_set, List.length_append, List.length_take]; omega) | (show wantB _ _ = true; simp <;> omega) | (show (_ : Bool) = _; simp_all; done) | (exfalso; omega) | refine aRegion_auto (by decide +kernel) ?_ | refine ⟨_, _, REnt.drop ⟨rfl, rfl⟩, ?_⟩ | fail))
  exact hK
end Go.Proofs.YtcfalmdfohphoaaDoor
/-
  Arguments read again behind a call that leaves old memory alone; a slice of points opened.
-/
namespace Go.Proofs.YtcfalmdfohphoaaDoor
open Go Go.ChangeShapes Go.WideShapes Go.ChangeAt Go.RowKit
theorem trodAll_below {H : Type} {enc : TypeId × Value → H} {P : Program} (hl : laidOutB P = true) {W W' : World} (hb : Below W.heap.size W W') :
    ∀ (ts : List TypeId) (vs : List Value) (ds : List (DataW H)) (ps : List MemPlace), (∀ t ∈ ts, P.readableRec t = true ∧ t < P.types.size) →
      DataW.TrodAll enc P W 0 (fun _ => true) true ts vs ds ps → (∀ x ∈ ps, x.block < W.heap.size) →
      DataW.TrodAll enc P W' 0 (fun b => decide (b < W.heap.size)) true ts vs ds ps
  | [], [], [], ps, _, h, _ => h
  | [], [], _ :: _, _, _, h, _ => h.elim
  | [], _ :: _, _, _, _, h, _ => h.elim
  | _ :: _, [], _, _, _, h, _ => h.elim
  | _ :: _, _ :: _, [], _, _, h, _ => h.elim
  | t :: ts, v :: vs, d :: ds, ps, hr, h, hlt => by
    obtain ⟨p, q, h1, h2, rfl⟩ := h
    refine ⟨p, q, Below.trod hl (hr t (List.mem_cons_self ..)).1 (hr t (List.mem_cons_self ..)).2 h1 hb (fun x hx => hlt x (List.mem_append.2 (.inl hx))), ?_, rfl⟩
    exact trodAll_below hl hb ts vs ds q (fun t ht => hr t (List.mem_cons_of_mem _ ht)) h2 (fun x hx => hlt x (List.mem_append.2 (.inr hx)))
end Go.Proofs.YtcfalmdfohphoaaDoor
/-
  ShapeThins answers true, whatever it is asked (no condition).
-/
namespace Go.Proofs.YtcfalmdfohphoaaDoor.shapeThins
open Go Go.ChangeShapes Go.WideShapes Go.ChangeAt Go.RowKit Go.Ab
set_option maxRecDepth 100000
theorem own : ownKnob Tryd.prog.godebug = none := by kernel_rfl
theorem laidOut : laidOutB Tryd.prog = true := by kernel_rfl
theorem lifted (os : Os) (started : os.Started) (H : Type) (enc : TypeId × Value → H) :
    ReturnsInHanded {} Tryd.checked os 6 .any (fun w args => (Rows.shapeThinsSpec.pre enc Tryd.prog Tryd.f6 [] false w args ∧ laidMetH Tryd.prog Rows.shapeThinsRow.laid w) ∧ sizedMet enc Tryd.prog Tryd.f6 (OpenSpec.ofChange Rows.shapeThinsSpec) false w args)
      (Rows.shapeThinsSpec.post enc Tryd.prog Tryd.f6 false true false false) := by
  refine returnsInHanded_of_change_and (C := Tryd.checked) (X := fun w _ => laidMetH Tryd.prog Rows.shapeThinsRow.laid w) (fun _ _ _ hh h => h.of_heap hh) own started (by kernel_rfl) Tryd.func6
    (ChangeSpec.witness_shaped (enc := enc) (C := Tryd.checked) (os := os) (X := fun w _ => laidMetH Tryd.prog Rows.shapeThinsRow.laid w) false (World.doorLaid Tryd.prog 400 os) #[.pointer none, .int .i64 0] 8 rfl (World.shaped_of_RefB (by kernel_rfl) (by kernel_rfl)) (by kernel_rfl) (by kernel_rfl) (by kernel_rfl)
      (laidMetH_of_parts3 (fuel := 8) (laidMet_of_run' 8 (by kernel_rfl) (by kernel_rfl)) (by kernel_rfl) (by kernel_rfl))) ?_
  intro W base args ds gs before hval0 hW _ hsz0 hL _
  have hval : ∀ (j : Nat) t v, Tryd.f6.params[j]? = some t → args[j]? = some v → Value.okWide Tryd.prog W .any base t v := hval0
  have hW' := hW
  obtain ⟨p, q, hA0, hV, rfl, hfz, hnd⟩ := hW
  have hA : DataW.TrodAll enc Tryd.prog W 0 (fun _ => true) true Tryd.f6.params.toList args.toList ds p := hA0
  obtain ⟨rfl, rfl⟩ := trodVars_none hV
  simp only [List.append_nil] at hW'
  have hAll : ∀ W', Below W.heap.size W W' → DataW.TrodAll enc Tryd.prog W' 0 (fun b => decide (b < W.heap.size)) true Tryd.f6.params.toList args.toList ds p :=
    fun W' hb => trodAll_below laidOut hb _ _ _ _ (by rw [Tryd.params6]; exact of_decide_eq_true (by kernel_rfl)) hA (fun x hx => hW'.lt x hx)
  have hsz := hsz0
  clear hsz0
  rw [Tryd.params6] at hA hval
  obtain ⟨v0, vs0, d0, ds0, p0, q0, hargs, rfl, rfl, h0, t0⟩ := trodAll_cons hA
  obtain ⟨v1, vs1, d1, ds1, p1, q1, rfl, rfl, rfl, h1, t1⟩ := trodAll_cons t0
  obtain ⟨rfl, rfl, rfl⟩ := trodAll_nil t1
  obtain rfl : args = #[v0, v1] := by cases args; simp_all
  clear hA0 hval0
  obtain ⟨E, hN, hE⟩ := globs8 hL rfl rfl
  have hsz : (DataW.weightsEach Tryd.prog ([22, 3] ++ Rows.shapeThinsSpec.plain.varTypes Tryd.prog) ([d0, d1] ++ [])).all (· ≤ reachBytes) = true := by have h := hsz; rw [show Tryd.checked.prog = Tryd.prog from rfl, Tryd.params6] at h; exact h
  obtain ⟨hw0, hsz⟩ := weights_first hsz
  obtain ⟨hw1, hsz⟩ := weights_first hsz
  have o0 := open_ptrW (n := 6) (ty := MpT) tabOk (show tptrTo tab 22 = some 40 by kernel_rfl) (by kernel_rfl) (G8 E) (hval 0 _ v0 rfl rfl) h0 hw0
  obtain ⟨y1, r1, b1⟩ := open_val (n := 1) (ty := int) tabOk (by kernel_rfl) (G8 E) (hval 1 _ v1 rfl rfl) h1
  have fin : Calls Tryd.prog 6 #[v0, v1] W fun e w' => e = .returned (.bool true) ∧ Below W.heap.size W w' := by
    rcases o0 with rfl | ⟨y0, r0, b0, w0⟩
    · exact acall_true (vs := [.pointer none, v1]) (shapeThins_nil y1 _ rfl) hE ⟨_, _, rfl, (rel_raw rfl).2 rfl, ⟨_, _, rfl, r1, rfl⟩⟩
    · have w1 := w0 _ Tryd.underlying40 _ Tryd.underlying31
      rw [show Tryd.prog.bytesOf 44 = 24 by kernel_rfl] at w1
      have hl : y0.length ≤ 5864062014634 := by
        have : List.length y0 * 24 ≤ reachBytes := w1.1
        unfold reachBytes at this; omega
      have hlen : ∀ i, i < y0.length → (Shp.arc y0 i).length ≤ 8796093022208 := fun i hi => by
        have h2 := (w1.2 i hi _ Tryd.underlying44).1
        rw [show Tryd.prog.bytesOf 46 = 16 by kernel_rfl] at h2
        have h3 : Shp.arc y0 i = y0[i] := by unfold Shp.arc; rw [List.getD_eq_getElem?_getD, List.getElem?_eq_getElem hi]; rfl
        rw [h3]
        have : List.length y0[i] * 16 ≤ reachBytes := h2
        unfold reachBytes at this; omega
      have hm1 : y1 ≤ 9223372036854775807 := b1.2
      exact acall_true (vs := [v0, v1]) (shapeThins_any hN y0 hl hlen y1 hm1 _ rfl) hE ⟨_, _, rfl, r0, ⟨_, _, rfl, r1, rfl⟩⟩
  refine fin.mono fun e W' ⟨he, hg⟩ => ?_
  subst he
  exact ⟨_, rfl, _, _, _, [], _, [], hW', trodAll_mk1 (shut_bool Tryd.underlying4 _), hAll W' hg, rfl, hg.frame _, fun h => by cases h⟩
theorem row : Rows.ShapeThinsSaid :=
  OpenClaim.holds_of_wide 6 Tryd.f6 rfl rfl rfl rfl rfl rfl rfl ⟨rfl, rfl, rfl, rfl, rfl⟩ rfl rfl rfl rfl rfl (by kernel_rfl) Tryd.func6 (by kernel_rfl)
    (of_decide_eq_true (by kernel_rfl)) (by unfold Func.isWrapper; first | (rw [if_pos (by decide +kernel)]; kernel_rfl) | (rw [if_neg (by decide +kernel)]; exact ⟨rfl, rfl⟩))
    (fun os started H enc _ => lifted os started H enc)
theorem proved : Rows.ShapeThinsCardSaid :=
  Claim7.holds_tied_plain_at .later [] [.handle, .sentinel, .sentinel, .sentinel, .sentinel, .sentinel, .sentinel, .sentinel, .sentinel] true (true, "23caa00f1aea8a9207bdee5ce69086419719e306f5c717a9aa8809e8ab7f96e5") true
    row (fun _ h => by cases h) (by kernel_rfl) (fun _ h => by cases h) shapeThins_row_tie rfl ⟨rfl, rfl⟩ (by kernel_rfl) rfl
    (fun f fn hf hfn => by
      obtain rfl : f = 6 := Option.some.inj ((show Tryd.prog.funcNamed "mercator/mercatorlaw5.ShapeThins" = some 6 by kernel_rfl).symm.trans hf) |>.symm
      obtain rfl : fn = Tryd.f6 := (Option.some.inj (Tryd.func6.symm.trans hfn)).symm
      exact ⟨by kernel_rfl, fun j t ht => by
        rw [Tryd.params6] at ht
        have hm : t ∈ [22, 3] := by simpa using Array.mem_of_getElem? ht
        have hall : ([22, 3].all fun u => !Tryd.prog.wantsStandIn u) = true := by kernel_rfl
        exact (show Tryd.prog.wantsStandIn t = false by simpa using List.all_eq_true.1 hall t hm)⟩)
    (by kernel_rfl)
end Go.Proofs.YtcfalmdfohphoaaDoor.shapeThins
