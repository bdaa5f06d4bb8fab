/-
  The points of a round, and the sizes of faces.
-/
import Derived.Test.YtcfalmdfohphoaaDoorM10
import Derived.Test.YtcfalmdfohphoaaDoorChecked
import Derived.WalkKit
import Derived.ProofKit
import Derived.OpenShut
import Derived.Carry
import Derived.Test.YtcfalmdfohphoaaDoorTie
import Derived.Test.YtcfalmdfohphoaaDoorCards
import Derived.SevenTiedAt
import Derived.LaidMore
import Derived.Lay
import Derived.Deep.Slices
import Derived.Lib.SmallJoins
import Derived.Stop.Joined
namespace Shp
theorem rd_len (nf : Int → Int) : ∀ (f : Nat) (g : List Int) (w : Int), (rd nf f g w).length ≤ f
  | 0, _, _ => Nat.le_refl _
  | f + 1, g, w => by
    by_cases h : w ∈ g
    · rw [rd_in h]; exact Nat.zero_le _
    · rw [rd_out h, List.length_cons]
      have := rd_len nf f (w :: g) (nf w)
      omega
theorem rnd_mem {n : Nat} {nf : Int → Int} (hnf : ways n nf) : ∀ (ws : List Int), (∀ w ∈ ws, w ≠ 0 ∧ w.natAbs ≤ n) → ∀ g, ∀ l ∈ rnd nf n ws g, (∀ v ∈ l, v ≠ 0 ∧ v.natAbs ≤ n) ∧ l.length ≤ 2 * n + 1
  | [], _, g, l, hl => by cases hl
  | w :: ws, hw, g, l, hl => by
    unfold rnd at hl
    rcases List.mem_append.1 hl with h | h
    · unfold ad at h
      split at h
      · cases h
      · simp at h
        subst h
        exact ⟨rd_way hnf _ _ _ (hw w (List.mem_cons_self ..)), Nat.le_trans (rd_len nf _ _ _) (by omega)⟩
    · exact rnd_mem hnf ws (fun v hv => hw v (List.mem_cons_of_mem _ hv)) _ l h
theorem rounds_mem {n : Nat} {nf : Int → Int} (hnf : ways n nf) : ∀ l ∈ rounds nf n, (∀ v ∈ l, v ≠ 0 ∧ v.natAbs ≤ n) ∧ l.length ≤ 2 * n + 1 := rnd_mem hnf _ (fun w hw => (mem_wf n w).1 hw) []
theorem rnd_len (nf : Int → Int) (n : Nat) : ∀ (ws g : List Int), (rnd nf n ws g).length ≤ ws.length
  | [], g => Nat.le_refl _
  | w :: ws, g => by
    unfold rnd
    rw [List.length_append, List.length_cons]
    have h1 := rnd_len nf n ws ((rd nf (2 * n + 1 - g.length) g w).reverse ++ g)
    have h2 : (ad (rd nf (2 * n + 1 - g.length) g w)).length ≤ 1 := by unfold ad; split <;> simp
    omega
theorem rounds_len (nf : Int → Int) (n : Nat) : (rounds nf n).length ≤ 2 * n := by
  have := rnd_len nf n (wf n) []
  rw [wf_length] at this
  exact this
theorem wpts_len (m : Arcs) (w : Int) : (wpts m w).length = (arcOf m w).length - 1 := by
  unfold wpts
  rw [List.length_dropLast]
  split <;> simp
theorem pts_snoc (m : Arcs) (l : List Int) (w : Int) : pts m (l ++ [w]) = pts m l ++ wpts m w := by
  unfold pts
  rw [List.flatMap_append]
  simp
theorem pts_len {m : Arcs} {b : Nat} : ∀ (l : List Int), (∀ w ∈ l, (arcOf m w).length ≤ b + 1) → (pts m l).length ≤ l.length * b
  | [], _ => by simp [pts]
  | w :: l, h => by
    have h1 := pts_len l fun v hv => h v (List.mem_cons_of_mem _ hv)
    have h2 := wpts_len m w
    have h3 := h w (List.mem_cons_self ..)
    have e : pts m (w :: l) = wpts m w ++ pts m l := rfl
    rw [e, List.length_append, List.length_cons, Nat.succ_mul]
    omega
theorem mem_wpts {m : Arcs} {w : Int} {p : Sp} (h : p ∈ wpts m w) : p ∈ arcOf m w := by
  unfold wpts at h
  have := List.dropLast_subset _ h
  split at this
  · exact List.mem_reverse.1 this
  · exact this
theorem mem_pts {m : Arcs} {l : List Int} {p : Sp} (h : p ∈ pts m l) : ∃ w ∈ l, p ∈ arcOf m w := by
  unfold pts at h
  obtain ⟨w, hw, hp⟩ := List.mem_flatMap.1 h
  exact ⟨w, hw, mem_wpts hp⟩
theorem tot_two {m : Arcs} (h : ∀ i, i < m.length → 2 ≤ (arc m i).length) : ∀ i, i ≤ m.length → 2 * i ≤ tot m i
  | 0, _ => Nat.zero_le _
  | i + 1, hi => by
    have := tot_two h i (by omega)
    have h2 := h i (by omega)
    rw [tot_next (by omega)]
    omega
end Shp
namespace Go.Proofs.YtcfalmdfohphoaaDoor
open Go Go.Ab
set_option maxRecDepth 100000
/-- points of a round are places, and not too many -/
theorem pts_ok {m : Shp.Arcs} (B : MB m) (h60 : Shp.tot m m.length ≤ 60) {l : List Int} (hw : ∀ v ∈ l, v ≠ 0 ∧ v.natAbs ≤ m.length) (hl : l.length ≤ 2 * m.length + 1) : (Shp.pts m l).length ≤ 4000 ∧ ∀ i, i < (Shp.pts m l).length → plB (Shp.at_ (Shp.pts m l) i) = true := by
  have h2 := Shp.tot_two B.two m.length (Nat.le_refl _)
  have hlen : ∀ w ∈ l, (Shp.arcOf m w).length ≤ 59 + 1 := fun w hv => by
    obtain ⟨a, b⟩ := hw w hv
    exact Nat.le_trans (Shp.len_tot (m := m) (i := w.natAbs - 1) (by omega)) h60
  refine ⟨?_, fun i hi => ?_⟩
  · have h1 := Shp.pts_len l hlen
    have h3 : l.length * 59 ≤ 61 * 59 := Nat.mul_le_mul_right _ (by omega)
    omega
  · have hm : Shp.at_ (Shp.pts m l) i ∈ Shp.pts m l := by
      unfold Shp.at_
      rw [List.getD_eq_getElem?_getD, List.getElem?_eq_getElem hi]
      exact List.getElem_mem hi
    obtain ⟨w, hv, hp⟩ := Shp.mem_pts hm
    obtain ⟨a, b⟩ := hw w hv
    obtain ⟨t, ht, e⟩ := List.getElem_of_mem hp
    have := B.pl (w.natAbs - 1) t ⟨by omega, ht⟩
    unfold Shp.pt Shp.at_ at this
    rw [List.getD_eq_getElem?_getD, List.getElem?_eq_getElem (show t < (Shp.arc m (w.natAbs - 1)).length from ht)] at this
    rw [← e]; exact this
def szs (m : Shp.Arcs) (fs : List (List Int)) : List Int := fs.map fun l => Shp.area (Shp.pts m l)
set_option maxHeartbeats 8000000 in
theorem sizes_any (E : Errs) (m : Shp.Arcs) (hl : m.length ≤ 1000000000000000) (hlen : ∀ i, i < m.length → (Shp.arc m i).length ≤ 8796093022208) (h60 : Shp.vE ngB m = 0 → Shp.tot m m.length ≤ 60) (K : AV → List AO → Prop)
    (hK0 : Shp.vE ngB m = 0 → K (.tup [.fz (.list int) (szs m (Shp.rounds (Shp.nof m) m.length)), .fz .raw .nilIface]) [])
    (hK1 : Shp.vE ngB m ≠ 0 → K (.tup [.nilSl, .fz .raw (er E (Shp.vE ngB m))]) []) : ACall Tryd.prog (G8 E) 12 [.fz MpT m] [] K := by
  refine acall_mk (E := envCut (G8 E) 62 0 [13, 15]) (envCutOk _ _ _ _) Tryd.func12 rfl rfl rfl rfl rfl ?_
  refine acall_conv [.dat MpT] _ _ _ rfl trivial (acall_frame0 rfl (faces_any E m hl hlen _ (fun hv => ?_) (fun hv => ?_)))
  · have hK := hK0 hv
    have h60 := h60 hv
    obtain ⟨B, R⟩ := right_of hv
    have hfew := B.few
    have hnf := Shp.nof_way (m := m)
    have hrm := Shp.rounds_mem hnf
    have hrl := Shp.rounds_len (Shp.nof m) m.length
    obtain ⟨fs, hfs⟩ : ∃ fs, Shp.rounds (Shp.nof m) m.length = fs := ⟨_, rfl⟩
    rw [hfs] at hK hrm hrl ⊢
    have hpk := fun (l : List Int) (hl : l ∈ fs) => pts_ok B h60 (hrm l hl).1 (hrm l hl).2
    (repeat' (first | exact trivial | exact fun h => h | refine And.intro ?_ ?_ | (intro hb; try simp at hb) | omega | exact rfl | exact Nat.le_refl _ | (show _ + 1 ≤ 4294967296; omega) | (show _ + 1 ≤ 5864062014634; omega) | (dsimp only; omega) | (show (_ : Int) ≤ (_ : Int); omega) | (show _ < List.length _; simp only [List.length_set, List.length_append, List.length_take]; omega) | (show wantB _ _ = true; simp <;> omega) | (show (_ : Bool) = _; simp_all; done) | (exfalso; omega) | refine aRegion_auto (by decide +kernel) ?_ | fail))
    refine ⟨Nat, fun k => ⟨[(1, .ptr 0 0), (6, .ref 1 0 (szs m (fs.take k)).length), (21, .fz (.list (.list int)) fs), (22, .fz int fs.length), (23, .fz int k)], [.box [.fz (.list (.list SpT)) m], .row int (szs m (fs.take k))]⟩, fun k => k ≤ fs.length, fun k => fs.length - k, 0, Nat.zero_le _, (Ent.nil 6 int rfl).trans (Ent.sub rfl ?_), ?_⟩
    · (repeat' (first | exact trivial | exact rfl | refine And.intro ?_ ?_))
    intro k hk
    have hk : k ≤ fs.length := hk
    have hsl : (szs m (fs.take k)).length = k := by unfold szs; rw [List.length_map, List.length_take]; omega
    obtain ⟨o, ho⟩ : ∃ o, szs m (fs.take k) = o := ⟨_, rfl⟩
    rw [ho] at hsl
    show awp _ _ _ ⟨[(1, .ptr 0 0), (6, .ref 1 0 (szs m (fs.take k)).length), (21, .fz (.list (.list int)) fs), (22, .fz int fs.length), (23, .fz int k)], [.box [.fz (.list (.list SpT)) m], .row int (szs m (fs.take k))]⟩
    rw [ho]
    by_cases hkl : k < fs.length
    · obtain ⟨l, hl0⟩ : ∃ l, fs[k] = l := ⟨_, rfl⟩
      have hlm : l ∈ fs := by rw [← hl0]; exact List.getElem_mem hkl
      have hgl : List.getD fs (Int.toNat (k : Int)) (Ty.list int).dft = l := by rw [Int.toNat_natCast, List.getD_eq_getElem?_getD, List.getElem?_eq_getElem hkl]; exact hl0
      obtain ⟨hp1, hp2⟩ := hpk l hlm
      obtain ⟨hw1, hw2⟩ := hrm l hlm
      have hnx : szs m (fs.take (k + 1)) = o ++ [Shp.area (Shp.pts m l)] := by
        rw [← ho]; unfold szs
        rw [List.take_add_one, List.getElem?_eq_getElem hkl, hl0, List.map_append]; rfl
      (repeat' (first | exact trivial | exact fun h => h | refine And.intro ?_ ?_ | (intro hb; try simp at hb) | omega | exact rfl | exact Nat.le_refl _ | (show _ + 1 ≤ 4294967296; omega) | (show _ + 1 ≤ 5864062014634; omega) | (dsimp only; omega) | (show (_ : Int) ≤ (_ : Int); omega) | (show _ < List.length _; simp only [List.length_set, List.length_append, List.length_take]; omega) | (show wantB _ _ = true; simp <;> omega) | (show (_ : Bool) = _; simp_all; done) | (exfalso; omega) | refine aRegion_auto (by decide +kernel) ?_ | fail))
      rw [hgl]
      (repeat' (first | exact trivial | exact fun h => h | refine And.intro ?_ ?_ | (intro hb; try simp at hb) | omega | exact rfl | exact Nat.le_refl _ | (show _ + 1 ≤ 4294967296; omega) | (show _ + 1 ≤ 5864062014634; omega) | (dsimp only; omega) | (show (_ : Int) ≤ (_ : Int); omega) | (show _ < List.length _; simp only [List.length_set, List.length_append, List.length_take]; omega) | (show wantB _ _ = true; simp <;> omega) | (show (_ : Bool) = _; simp_all; done) | (exfalso; omega) | refine aRegion_auto (by decide +kernel) ?_ | fail))
      refine ⟨Nat, fun q => ⟨[(1, .ptr 0 0), (6, .ref 1 0 o.length), (9, .ref 2 0 (Shp.pts m (l.take q)).length), (21, .fz (.list (.list int)) fs), (22, .fz int fs.length), (23, .fz int k), (27, .fz (.list int) l), (28, .fz int l.length), (29, .fz int q)], [.box [.fz (.list (.list SpT)) m], .row int o, .row SpT (Shp.pts m (l.take q))]⟩, fun q => q ≤ l.length, fun q => l.length - q, 0, Nat.zero_le _, (Ent.nil 9 SpT rfl).trans (Ent.sub rfl ?_), ?_⟩
      · (repeat' (first | exact trivial | exact rfl | refine And.intro ?_ ?_))
      intro q hq
      have hq : q ≤ l.length := hq
      obtain ⟨ps, hps⟩ : ∃ ps, Shp.pts m (l.take q) = ps := ⟨_, rfl⟩
      show awp _ _ _ ⟨[(1, .ptr 0 0), (6, .ref 1 0 o.length), (9, .ref 2 0 (Shp.pts m (l.take q)).length), (21, .fz (.list (.list int)) fs), (22, .fz int fs.length), (23, .fz int k), (27, .fz (.list int) l), (28, .fz int l.length), (29, .fz int q)], [.box [.fz (.list (.list SpT)) m], .row int o, .row SpT (Shp.pts m (l.take q))]⟩
      rw [hps]
      by_cases hql : q < l.length
      · obtain ⟨w, hw0⟩ : ∃ w, l[q] = w := ⟨_, rfl⟩
        have hww := hw1 w (by rw [← hw0]; exact List.getElem_mem hql)
        have hgw : List.getD l (Int.toNat (q : Int)) int.dft = w := by rw [Int.toNat_natCast, List.getD_eq_getElem?_getD, List.getElem?_eq_getElem hql]; exact hw0
        obtain ⟨a, ha⟩ : ∃ a, Shp.arcOf m w = a := ⟨_, rfl⟩
        have hga : List.getD m (Int.toNat (max w (0 - w) - 1)) SpT.list.dft = a := by
          rw [show Int.toNat (max w (0 - w) - 1) = w.natAbs - 1 by omega]; exact ha
        have hal : 2 ≤ a.length ∧ a.length ≤ 10000 := by
          rw [← ha]; exact ⟨B.two _ (by omega), B.len _ (by omega)⟩
        have hpl : ps.length ≤ 4000 := by
          rw [← hps]
          have : (Shp.pts m (l.take q)).length ≤ (Shp.pts m l).length := by
            conv => rhs; rw [← List.take_append_drop q l]
            unfold Shp.pts
            rw [List.flatMap_append, List.length_append]
            omega
          omega
        have hpn : Shp.pts m (l.take (q + 1)) = ps ++ (if w < 0 then a.reverse else a).dropLast := by
          rw [List.take_add_one, List.getElem?_eq_getElem hql, hw0]
          rw [← hps, ← ha]
          exact Shp.pts_snoc m (l.take q) w
        (repeat' (first | exact trivial | exact fun h => h | refine And.intro ?_ ?_ | (intro hb; try simp at hb) | omega | exact rfl | exact Nat.le_refl _ | (show _ + 1 ≤ 4294967296; omega) | (show _ + 1 ≤ 5864062014634; omega) | (dsimp only; omega) | (show (_ : Int) ≤ (_ : Int); omega) | (show _ < List.length _; simp only [List.length_set, List.length_append, List.length_take]; omega) | (show wantB _ _ = true; simp <;> omega) | (show (_ : Bool) = _; simp_all; done) | (exfalso; omega) | refine aRegion_auto (by decide +kernel) ?_ | fail))
        rw [hgw]
        (repeat' (first | exact trivial | exact fun h => h | refine And.intro ?_ ?_ | (intro hb; try simp at hb) | omega | exact rfl | exact Nat.le_refl _ | (show _ + 1 ≤ 4294967296; omega) | (show _ + 1 ≤ 5864062014634; omega) | (dsimp only; omega) | (show (_ : Int) ≤ (_ : Int); omega) | (show _ < List.length _; simp only [List.length_set, List.length_append, List.length_take]; omega) | (show wantB _ _ = true; simp <;> omega) | (show (_ : Bool) = _; simp_all; done) | (exfalso; omega) | refine aRegion_auto (by decide +kernel) ?_ | fail))
        rw [hga]
        (repeat' (first | exact trivial | exact fun h => h | refine And.intro ?_ ?_ | (intro hb; try simp at hb) | omega | exact rfl | exact Nat.le_refl _ | (show _ + 1 ≤ 4294967296; omega) | (show _ + 1 ≤ 5864062014634; omega) | (dsimp only; omega) | (show (_ : Int) ≤ (_ : Int); omega) | (show _ < List.length _; simp only [List.length_set, List.length_append, List.length_take]; omega) | (show wantB _ _ = true; simp <;> omega) | (show (_ : Bool) = _; simp_all; done) | (exfalso; omega) | refine aRegion_auto (by decide +kernel) ?_ | fail))
        refine acall_frame0 rfl (cloneS_any _ a (by omega) (by omega) _ ?_)
        (repeat' (first | exact trivial | exact fun h => h | refine And.intro ?_ ?_ | (intro hb; try simp at hb) | omega | exact rfl | exact Nat.le_refl _ | (show _ + 1 ≤ 4294967296; omega) | (show _ + 1 ≤ 5864062014634; omega) | (dsimp only; omega) | (show (_ : Int) ≤ (_ : Int); omega) | (show _ < List.length _; simp only [List.length_set, List.length_append, List.length_take]; omega) | (show wantB _ _ = true; simp <;> omega) | (show (_ : Bool) = _; simp_all; done) | (exfalso; omega) | refine aRegion_auto (by decide +kernel) ?_ | fail))
        refine ⟨[(1, .ptr 0 0), (6, .ref 1 0 o.length), (9, .ref 2 0 ps.length), (11, .fz int w), (12, .ref 3 0 a.length), (21, .fz (.list (.list int)) fs), (22, .fz int fs.length), (23, .fz int k), (27, .fz (.list int) l), (28, .fz int l.length), (29, .fz int q)], [.box [.fz (.list (.list SpT)) m], .row int o, .row SpT ps, .row SpT a], Ent.ren [0, 1, 2, 4] rfl ?_ ?_, ?_⟩
        · (repeat' (first | exact trivial | exact rfl | refine And.intro ?_ ?_))
        · (repeat' (first | exact trivial | exact rfl | refine And.intro ?_ ?_))
        obtain ⟨b, hb0⟩ : ∃ b, (if w < 0 then a.reverse else a) = b := ⟨_, rfl⟩
        have hbl : b.length = a.length := by rw [← hb0]; split <;> simp
        rw [hb0] at hpn
        apply merge
        · intro hc
          by_cases hneg : w < 0
          · rw [if_pos hneg] at hb0
            (repeat' (first | exact trivial | exact fun h => h | refine And.intro ?_ ?_ | (intro hb; try simp at hb) | omega | exact rfl | exact Nat.le_refl _ | (show _ + 1 ≤ 4294967296; omega) | (show _ + 1 ≤ 5864062014634; omega) | (dsimp only; omega) | (show (_ : Int) ≤ (_ : Int); omega) | (show _ < List.length _; simp only [List.length_set, List.length_append, List.length_take]; omega) | (show wantB _ _ = true; simp <;> omega) | (show (_ : Bool) = _; simp_all; done) | (exfalso; omega) | refine aRegion_auto (by decide +kernel) ?_ | fail))
            refine acall_frame [3] [.row SpT a] [.ref 0 0 a.length] rfl (by repeat' (first | exact rfl | exact trivial | refine And.intro ?_ ?_)) ⟨rfl, rfl⟩ rfl (reverseS_any _ a (by omega) _ ?_)
            (repeat' (first | exact trivial | exact fun h => h | refine And.intro ?_ ?_ | (intro hb; try simp at hb) | omega | exact rfl | exact Nat.le_refl _ | (show _ + 1 ≤ 4294967296; omega) | (show _ + 1 ≤ 5864062014634; omega) | (dsimp only; omega) | (show (_ : Int) ≤ (_ : Int); omega) | (show _ < List.length _; simp only [List.length_set, List.length_append, List.length_take]; omega) | (show wantB _ _ = true; simp <;> omega) | (show (_ : Bool) = _; simp_all; done) | (exfalso; omega) | refine aRegion_auto (by decide +kernel) ?_ | fail))
            refine ⟨[(1, .ptr 0 0), (6, .ref 1 0 o.length), (9, .ref 2 0 ps.length), (12, .ref 3 0 b.length), (21, .fz (.list (.list int)) fs), (22, .fz int fs.length), (23, .fz int k), (27, .fz (.list int) l), (28, .fz int l.length), (29, .fz int q)], [.box [.fz (.list (.list SpT)) m], .row int o, .row SpT ps, .row SpT b], Ent.sub ?_ ?_, hc.out⟩
            · rw [← hb0]
            · rw [hbl]; (repeat' (first | exact trivial | exact rfl | refine And.intro ?_ ?_))
          · rw [if_neg hneg] at hb0
            (repeat' (first | exact trivial | exact fun h => h | refine And.intro ?_ ?_ | (intro hb; try simp at hb) | omega | exact rfl | exact Nat.le_refl _ | (show _ + 1 ≤ 4294967296; omega) | (show _ + 1 ≤ 5864062014634; omega) | (dsimp only; omega) | (show (_ : Int) ≤ (_ : Int); omega) | (show _ < List.length _; simp only [List.length_set, List.length_append, List.length_take]; omega) | (show wantB _ _ = true; simp <;> omega) | (show (_ : Bool) = _; simp_all; done) | (exfalso; omega) | refine aRegion_auto (by decide +kernel) ?_ | fail))
            refine ⟨[(1, .ptr 0 0), (6, .ref 1 0 o.length), (9, .ref 2 0 ps.length), (12, .ref 3 0 b.length), (21, .fz (.list (.list int)) fs), (22, .fz int fs.length), (23, .fz int k), (27, .fz (.list int) l), (28, .fz int l.length), (29, .fz int q)], [.box [.fz (.list (.list SpT)) m], .row int o, .row SpT ps, .row SpT b], Ent.sub ?_ ?_, hc.out⟩
            · rw [← hb0]
            · rw [hbl]; (repeat' (first | exact trivial | exact rfl | refine And.intro ?_ ?_))
        clear hb0
        have htk : List.take (((b.length : Int) - 1).toNat - Int.toNat 0) (List.drop (0 + Int.toNat 0) b) = b.dropLast := by
          rw [show ((b.length : Int) - 1).toNat - Int.toNat 0 = b.length - 1 by simp, show 0 + Int.toNat 0 = 0 from rfl, List.drop_zero, List.dropLast_eq_take]
        have hdl : b.dropLast.length ≤ 10000 := by rw [List.length_dropLast]; omega
        (repeat' (first | exact trivial | exact fun h => h | refine And.intro ?_ ?_ | (intro hb; try simp at hb) | omega | exact rfl | exact Nat.le_refl _ | (show _ + 1 ≤ 4294967296; omega) | (show _ + 1 ≤ 5864062014634; omega) | (dsimp only; omega) | (show (_ : Int) ≤ (_ : Int); omega) | (show _ < List.length _; simp only [List.length_set, List.length_append, List.length_take]; omega) | (show wantB _ _ = true; simp <;> omega) | (show (_ : Bool) = _; simp_all; done) | (exfalso; omega) | refine aRegion_auto (by decide +kernel) ?_ | fail))
        · show ps.length + (List.take (((b.length : Int) - 1).toNat - Int.toNat 0) (List.drop (0 + Int.toNat 0) b)).length ≤ 5864062014634
          rw [htk]
          omega
        · refine ⟨q + 1, by show q + 1 ≤ l.length; omega, by show l.length - (q + 1) < l.length - q; omega, Ent.ren [0, 1, 4] rfl ?_ ?_⟩
          · (repeat' (first | exact trivial | exact rfl | refine And.intro ?_ ?_))
            refine congrArg (fun l => some (AO.row SpT l)) (?_ : List.take ps.length ps ++ List.take (((b.length : Int) - 1).toNat - Int.toNat 0) (List.drop (0 + Int.toNat 0) b) = Shp.pts m (l.take (q + 1)))
            rw [List.take_length, htk, hpn]
          · (repeat' (first | exact trivial | exact rfl | refine And.intro ?_ ?_))
            refine congrArg (AV.ref 4 0) (?_ : ps.length + (List.take (((b.length : Int) - 1).toNat - Int.toNat 0) (List.drop (0 + Int.toNat 0) b)).length = (Shp.pts m (l.take (q + 1))).length)
            rw [htk, hpn, List.length_append]
      · obtain rfl : q = l.length := by omega
        rw [List.take_length] at hps
        rw [hps] at hp1 hp2 hnx
        (repeat' (first | exact trivial | exact fun h => h | refine And.intro ?_ ?_ | (intro hb; try simp at hb) | omega | exact rfl | exact Nat.le_refl _ | (show _ + 1 ≤ 4294967296; omega) | (show _ + 1 ≤ 5864062014634; omega) | (dsimp only; omega) | (show (_ : Int) ≤ (_ : Int); omega) | (show _ < List.length _; simp only [List.length_set, List.length_append, List.length_take]; omega) | (show wantB _ _ = true; simp <;> omega) | (show (_ : Bool) = _; simp_all; done) | (exfalso; omega) | refine aRegion_auto (by decide +kernel) ?_ | fail))
        refine acall_conv [.dat (.list SpT)] _ _ _ rfl ?_ (acall_frame0 rfl (acall_arg (area2_any _ ps hp1 hp2 _ ?_) ?_))
        · exact (by omega : 0 + ps.length ≤ ps.length)
        · (repeat' (first | exact trivial | exact fun h => h | refine And.intro ?_ ?_ | (intro hb; try simp at hb) | omega | exact rfl | exact Nat.le_refl _ | (show _ + 1 ≤ 4294967296; omega) | (show _ + 1 ≤ 5864062014634; omega) | (dsimp only; omega) | (show (_ : Int) ≤ (_ : Int); omega) | (show _ < List.length _; simp only [List.length_set, List.length_append, List.length_take]; omega) | (show wantB _ _ = true; simp <;> omega) | (show (_ : Bool) = _; simp_all; done) | (exfalso; omega) | refine aRegion_auto (by decide +kernel) ?_ | fail))
          refine ⟨k + 1, by show k + 1 ≤ fs.length; omega, by show fs.length - (k + 1) < fs.length - k; omega, Ent.ren [0, 4] rfl ?_ ?_⟩
          · (repeat' (first | exact trivial | exact rfl | refine And.intro ?_ ?_))
            refine congrArg (fun l => some (AO.row int l)) (?_ : List.take o.length o ++ [Shp.area ps] = szs m (fs.take (k + 1)))
            rw [List.take_length, hnx]
          · (repeat' (first | exact trivial | exact rfl | refine And.intro ?_ ?_))
            exact congrArg (AV.ref 4 0) (show o.length + 1 = (szs m (fs.take (k + 1))).length by rw [hnx]; simp)
        · refine congrArg (fun z => [AV.fz (.list SpT) z]) (?_ : ps = List.take ps.length (List.drop 0 ps))
          rw [List.drop_zero, List.take_length]
    · obtain rfl : k = fs.length := by omega
      rw [List.take_length] at ho
      rw [ho] at hK
      (repeat' (first | exact trivial | exact fun h => h | refine And.intro ?_ ?_ | (intro hb; try simp at hb) | omega | exact rfl | exact Nat.le_refl _ | (show _ + 1 ≤ 4294967296; omega) | (show _ + 1 ≤ 5864062014634; omega) | (dsimp only; omega) | (show (_ : Int) ≤ (_ : Int); omega) | (show _ < List.length _; simp only [List.length_set, List.length_append, List.length_take]; omega) | (show wantB _ _ = true; simp <;> omega) | (show (_ : Bool) = _; simp_all; done) | (exfalso; omega) | refine aRegion_auto (by decide +kernel) ?_ | fail))
      refine ⟨_, _, (REnt.conv [.dat (.list int), .keep] _ rfl ?_).trans (REnt.drop ⟨rfl, rfl⟩), ?_⟩
      · (repeat' (first | exact trivial | refine And.intro ?_ ?_ | (show _ ≤ _; omega) | (show _ ≤ _; simp; done)))
      · refine (congrArg (fun l => K (.tup [.fz (.list int) l, .fz .raw .nilIface]) []) (?_ : List.take o.length (List.drop 0 o) = o)).mpr hK
        rw [List.drop_zero, List.take_length]
  · have hK := hK1 hv
    have hle := Shp.vE_le ngB m
    obtain ⟨e, he⟩ : ∃ e, Shp.vE ngB m = e := ⟨_, rfl⟩
    rw [he] at hK hv hle ⊢
    have hd : e = 2 ∨ e = 3 ∨ e = 7 := by
      unfold Shp.vE at he
      split at he
      · omega
      · split at he
        · omega
        · split at he <;> omega
    rcases hd with rfl | rfl | rfl
    · (repeat' (first | exact trivial | exact fun h => h | refine And.intro ?_ ?_ | (intro hb; try simp at hb) | omega | exact rfl | exact Nat.le_refl _ | (show _ + 1 ≤ 4294967296; omega) | (show _ + 1 ≤ 5864062014634; omega) | (dsimp only; omega) | (show (_ : Int) ≤ (_ : Int); omega) | (show _ < List.length _; simp only [List.length_set, List.length_append, List.length_take]; omega) | (show wantB _ _ = true; simp <;> omega) | (show (_ : Bool) = _; simp_all; done) | (exfalso; omega) | refine aRegion_auto (by decide +kernel) ?_ | refine ⟨_, _, REnt.drop ⟨rfl, rfl⟩, ?_⟩ | fail))
      exact hK
    · (repeat' (first | exact trivial | exact fun h => h | refine And.intro ?_ ?_ | (intro hb; try simp at hb) | omega | exact rfl | exact Nat.le_refl _ | (show _ + 1 ≤ 4294967296; omega) | (show _ + 1 ≤ 5864062014634; omega) | (dsimp only; omega) | (show (_ : Int) ≤ (_ : Int); omega) | (show _ < List.length _; simp only [List.length_set, List.length_append, List.length_take]; omega) | (show wantB _ _ = true; simp <;> omega) | (show (_ : Bool) = _; simp_all; done) | (exfalso; omega) | refine aRegion_auto (by decide +kernel) ?_ | refine ⟨_, _, REnt.drop ⟨rfl, rfl⟩, ?_⟩ | fail))
      exact hK
    · (repeat' (first | exact trivial | exact fun h => h | refine And.intro ?_ ?_ | (intro hb; try simp at hb) | omega | exact rfl | exact Nat.le_refl _ | (show _ + 1 ≤ 4294967296; omega) | (show _ + 1 ≤ 5864062014634; omega) | (dsimp only; omega) | (show (_ : Int) ≤ (_ : Int); omega) | (show _ < List.length _; simp only [List.length_set, List.length_append, List.length_take]; omega) | (show wantB _ _ = true; simp <;> omega) | (show (_ : Bool) = _; simp_all; done) | (exfalso; omega) | refine aRegion_auto (by decide +kernel) ?_ | refine ⟨_, _, REnt.drop ⟨rfl, rfl⟩, ?_⟩ | fail))
      exact hK
end Go.Proofs.YtcfalmdfohphoaaDoor
/-
  The points of a round, told by the document: the walk.
-/
namespace Go.Proofs.YtcfalmdfohphoaaDoor
open Go Go.Ab
set_option maxRecDepth 100000
set_option maxHeartbeats 8000000 in
theorem pointsOf_any (G : List (Nat × Value)) (m : Shp.Arcs) (B : MB m) (l : List Int) (hw1 : ∀ v ∈ l, v ≠ 0 ∧ v.natAbs ≤ m.length) (hll : l.length ≤ 100000) (hp1 : (Shp.pts m l).length ≤ 4000) (K : AV → List AO → Prop) (hK : K (.fz (.list SpT) (Shp.pts m l)) []) :
    ACall Tryd.prog G 20 [.fptr MpT m, .fz (.list int) l] [] K := by
  have hfew := B.few
  refine acall_mk (E := envCut G 66 0 [7, 9]) (envCutOk _ _ _ _) Tryd.func20 rfl rfl rfl rfl rfl ?_
  (repeat' (first | exact trivial | exact fun h => h | refine And.intro ?_ ?_ | (intro hb; try simp at hb) | omega | exact rfl | exact Nat.le_refl _ | (show _ + 1 ≤ 4294967296; omega) | (show _ + 1 ≤ 5864062014634; omega) | (dsimp only; omega) | (show (_ : Int) ≤ (_ : Int); omega) | (show _ < List.length _; simp only [List.length_set, List.length_append, List.length_take]; omega) | (show wantB _ _ = true; simp <;> omega) | (show (_ : Bool) = _; simp_all; done) | (exfalso; omega) | refine aRegion_auto (by decide +kernel) ?_ | fail))
  refine ⟨Nat, fun q => ⟨[(0, .fptr MpT m), (1, .fz (.list int) l), (5, .ref 0 0 (Shp.pts m (l.take q)).length), (6, .fz int q)], [.row SpT (Shp.pts m (l.take q))]⟩, fun q => q ≤ l.length, fun q => l.length - q, 0, Nat.zero_le _, (Ent.nil 5 SpT rfl).trans (Ent.sub rfl ?_), ?_⟩
  · (repeat' (first | exact trivial | exact rfl | refine And.intro ?_ ?_))
  intro q hq
  have hq : q ≤ l.length := hq
  obtain ⟨ps, hps⟩ : ∃ ps, Shp.pts m (l.take q) = ps := ⟨_, rfl⟩
  have hpl : ps.length ≤ 4000 := by
    rw [← hps]
    have : (Shp.pts m (l.take q)).length ≤ (Shp.pts m l).length := by
      conv => rhs; rw [← List.take_append_drop q l]
      unfold Shp.pts
      rw [List.flatMap_append, List.length_append]
      omega
    omega
  show awp _ _ _ ⟨[(0, .fptr MpT m), (1, .fz (.list int) l), (5, .ref 0 0 (Shp.pts m (l.take q)).length), (6, .fz int q)], [.row SpT (Shp.pts m (l.take q))]⟩
  rw [hps]
  by_cases hql : q < l.length
  · obtain ⟨w, hw0⟩ : ∃ w, l[q] = w := ⟨_, rfl⟩
    have hww := hw1 w (by rw [← hw0]; exact List.getElem_mem hql)
    have hgw : List.getD l (Int.toNat (q : Int)) int.dft = w := by rw [Int.toNat_natCast, List.getD_eq_getElem?_getD, List.getElem?_eq_getElem hql]; exact hw0
    obtain ⟨a, ha⟩ : ∃ a, Shp.arcOf m w = a := ⟨_, rfl⟩
    have hal : 2 ≤ a.length ∧ a.length ≤ 10000 := by
      rw [← ha]; exact ⟨B.two _ (by omega), B.len _ (by omega)⟩
    have hpn : Shp.pts m (l.take (q + 1)) = ps ++ (if w < 0 then a.reverse else a).dropLast := by
      rw [List.take_add_one, List.getElem?_eq_getElem hql, hw0]
      rw [← hps, ← ha]
      exact Shp.pts_snoc m (l.take q) w
    have gw2 : l[q]?.getD int.dft = w := by rw [List.getElem?_eq_getElem hql]; exact hw0
    by_cases hpos : 0 < w
    · have hga : List.getD m (Int.toNat (w - 1)) SpT.list.dft = a := by
        rw [show Int.toNat (w - 1) = w.natAbs - 1 by omega]; exact ha
      rw [if_neg (by omega)] at hpn
      have htk : List.take (((a.length : Int) - 1).toNat - Int.toNat 0) (List.drop (Int.toNat 0) a) = a.dropLast := by
        rw [show ((a.length : Int) - 1).toNat - Int.toNat 0 = a.length - 1 by simp, show Int.toNat 0 = 0 from rfl, List.drop_zero, List.dropLast_eq_take]
      have hdl : a.dropLast.length ≤ 10000 := by rw [List.length_dropLast]; omega
      have hga2 : List.getD m (Int.toNat (List.getD l (Int.toNat (q : Int)) int.dft - 1)) SpT.list.dft = a := by rw [hgw]; exact hga
      (repeat' (first | exact trivial | exact fun h => h | refine And.intro ?_ ?_ | (intro hb; try simp at hb) | omega | exact rfl | exact Nat.le_refl _ | (show _ + 1 ≤ 4294967296; omega) | (show _ + 1 ≤ 5864062014634; omega) | (dsimp only; omega) | (show (_ : Int) ≤ (_ : Int); omega) | (show _ < List.length _; simp only [List.length_set, List.length_append, List.length_take]; omega) | (show wantB _ _ = true; simp <;> omega) | (show (_ : Bool) = _; simp_all; done) | (exfalso; omega) | refine aRegion_auto (by decide +kernel) ?_ | fail))
      refine ⟨[(0, .fptr MpT m), (1, .fz (.list int) l), (5, .ref 0 0 ps.length), (6, .fz int q), (7, .fz (.list SpT) a)], [.row SpT ps], Ent.sub rfl ?_, ?_⟩
      · (repeat' (first | exact trivial | exact rfl | refine And.intro ?_ ?_))
        exact congrArg (fun z => AV.fz (.list SpT) z) hga2
      (repeat' (first | exact trivial | exact fun h => h | refine And.intro ?_ ?_ | (intro hb; try simp at hb) | omega | exact rfl | exact Nat.le_refl _ | (show _ + 1 ≤ 4294967296; omega) | (show _ + 1 ≤ 5864062014634; omega) | (dsimp only; omega) | (show (_ : Int) ≤ (_ : Int); omega) | (show _ < List.length _; simp only [List.length_set, List.length_append, List.length_take]; omega) | (show wantB _ _ = true; simp <;> omega) | (show (_ : Bool) = _; simp_all; done) | (exfalso; omega) | refine aRegion_auto (by decide +kernel) ?_ | fail))
      · show ps.length + (List.take (((a.length : Int) - 1).toNat - Int.toNat 0) (List.drop (Int.toNat 0) a)).length ≤ 5864062014634
        rw [htk]
        omega
      · refine ⟨q + 1, by show q + 1 ≤ l.length; omega, by show l.length - (q + 1) < l.length - q; omega, Ent.ren [1] rfl ?_ ?_⟩
        · (repeat' (first | exact trivial | exact rfl | refine And.intro ?_ ?_))
          refine congrArg (fun l => some (AO.row SpT l)) (?_ : List.take ps.length ps ++ List.take (((a.length : Int) - 1).toNat - Int.toNat 0) (List.drop (Int.toNat 0) a) = Shp.pts m (l.take (q + 1)))
          rw [List.take_length, htk, hpn]
        · (repeat' (first | exact trivial | exact rfl | refine And.intro ?_ ?_))
          refine congrArg (AV.ref 1 0) (?_ : ps.length + (List.take (((a.length : Int) - 1).toNat - Int.toNat 0) (List.drop (Int.toNat 0) a)).length = (Shp.pts m (l.take (q + 1))).length)
          rw [htk, hpn, List.length_append]
    · have hga : List.getD m (Int.toNat (0 - w - 1)) SpT.list.dft = a := by
        rw [show Int.toNat (0 - w - 1) = w.natAbs - 1 by omega]; exact ha
      have hga2 : List.getD m (Int.toNat (0 - List.getD l (Int.toNat (q : Int)) int.dft - 1)) SpT.list.dft = a := by rw [hgw]; exact hga
      rw [if_pos (by omega)] at hpn
      (repeat' (first | exact trivial | exact fun h => h | refine And.intro ?_ ?_ | (intro hb; try simp at hb) | omega | exact rfl | exact Nat.le_refl _ | (show _ + 1 ≤ 4294967296; omega) | (show _ + 1 ≤ 5864062014634; omega) | (dsimp only; omega) | (show (_ : Int) ≤ (_ : Int); omega) | (show _ < List.length _; simp only [List.length_set, List.length_append, List.length_take]; omega) | (show wantB _ _ = true; simp <;> omega) | (show (_ : Bool) = _; simp_all; done) | (exfalso; omega) | refine aRegion_auto (by decide +kernel) ?_ | fail))
      refine ⟨[(0, .fptr MpT m), (1, .fz (.list int) l), (5, .ref 0 0 ps.length), (6, .fz int q), (8, .fz (.list SpT) a)], [.row SpT ps], Ent.sub rfl ?_, ?_⟩
      · (repeat' (first | exact trivial | exact rfl | refine And.intro ?_ ?_))
        exact congrArg (fun z => AV.fz (.list SpT) z) hga2
      (repeat' (first | exact trivial | exact fun h => h | refine And.intro ?_ ?_ | (intro hb; try simp at hb) | omega | exact rfl | exact Nat.le_refl _ | (show _ + 1 ≤ 4294967296; omega) | (show _ + 1 ≤ 5864062014634; omega) | (dsimp only; omega) | (show (_ : Int) ≤ (_ : Int); omega) | (show _ < List.length _; simp only [List.length_set, List.length_append, List.length_take]; omega) | (show wantB _ _ = true; simp <;> omega) | (show (_ : Bool) = _; simp_all; done) | (exfalso; omega) | refine aRegion_auto (by decide +kernel) ?_ | fail))
      refine ⟨Nat, fun j => ⟨[(0, .fptr MpT m), (1, .fz (.list int) l), (5, .ref 0 0 (ps ++ a.reverse.take j).length), (6, .fz int q), (8, .fz (.list SpT) a), (9, .fz int ((a.length : Int) - 1 - (j : Int)))], [.row SpT (ps ++ a.reverse.take j)]⟩, fun j => j ≤ a.length - 1, fun j => a.length - j, 0, Nat.zero_le _, Ent.sub ?_ ?_, ?_⟩
      · rw [List.take_zero, List.append_nil]
      · (repeat' (first | exact trivial | exact rfl | refine And.intro ?_ ?_))
        · exact congrArg (fun l : Pts => AV.ref 0 0 l.length) (show ps = ps ++ a.reverse.take 0 by simp)
        · exact congrArg (fun z => AV.fz int z) (show (a.length : Int) - 1 = (a.length : Int) - 1 - ((0 : Nat) : Int) by omega)
      intro j hj
      have hj : j ≤ a.length - 1 := hj
      have hzl : (ps ++ a.reverse.take j).length = ps.length + j := by rw [List.length_append, List.length_take, List.length_reverse]; omega
      show awp _ _ _ ⟨[(0, .fptr MpT m), (1, .fz (.list int) l), (5, .ref 0 0 (ps ++ a.reverse.take j).length), (6, .fz int q), (8, .fz (.list SpT) a), (9, .fz int ((a.length : Int) - 1 - (j : Int)))], [.row SpT (ps ++ a.reverse.take j)]⟩
      obtain ⟨zs, hzs⟩ : ∃ zs, ps ++ a.reverse.take j = zs := ⟨_, rfl⟩
      rw [hzs] at hzl ⊢
      by_cases hja : j < a.length - 1
      · have hnx : ps ++ a.reverse.take (j + 1) = zs ++ [Shp.at_ a (a.length - 1 - j)] := by
          rw [← hzs, List.take_add_one, List.getElem?_reverse (by omega), at_some (by omega), List.append_assoc]; rfl
        obtain ⟨k, hk⟩ : ∃ k : Nat, (a.length : Int) - 1 - (j : Int) = k := ⟨a.length - 1 - j, by omega⟩
        have hk2 : a.length - 1 - j = k := by omega
        rw [hk2] at hnx
        rw [hk]
        (repeat' (first | exact trivial | exact fun h => h | refine And.intro ?_ ?_ | (intro hb; try simp at hb) | omega | exact rfl | exact Nat.le_refl _ | (show _ + 1 ≤ 4294967296; omega) | (show _ + 1 ≤ 5864062014634; omega) | (dsimp only; omega) | (show (_ : Int) ≤ (_ : Int); omega) | (show _ < List.length _; simp only [List.length_set, List.length_append, List.length_take]; omega) | (show wantB _ _ = true; simp <;> omega) | (show (_ : Bool) = _; simp_all; done) | (exfalso; omega) | refine aRegion_auto (by decide +kernel) ?_ | fail))
        refine ⟨j + 1, by show j + 1 ≤ a.length - 1; omega, by show a.length - (j + 1) < a.length - j; omega, Ent.ren [2] rfl ?_ ?_⟩
        · (repeat' (first | exact trivial | exact rfl | refine And.intro ?_ ?_))
          refine congrArg (fun l => some (AO.row SpT l)) (?_ : List.take zs.length zs ++ [Shp.at_ a k] = ps ++ a.reverse.take (j + 1))
          rw [List.take_length, hnx]
        · (repeat' (first | exact trivial | exact rfl | refine And.intro ?_ ?_))
          · exact congrArg (AV.ref 2 0) (show zs.length + 1 = (ps ++ a.reverse.take (j + 1)).length by rw [hnx]; simp)
          · exact congrArg (fun z => AV.fz int z) (show (k : Int) - 1 = (a.length : Int) - 1 - ((j + 1 : Nat) : Int) by omega)
      · have hje : j = a.length - 1 := by omega
        have hdn : zs = Shp.pts m (l.take (q + 1)) := by rw [hpn, ← hzs, hje, List.dropLast_eq_take, List.length_reverse]
        (repeat' (first | exact trivial | exact fun h => h | refine And.intro ?_ ?_ | (intro hb; try simp at hb) | omega | exact rfl | exact Nat.le_refl _ | (show _ + 1 ≤ 4294967296; omega) | (show _ + 1 ≤ 5864062014634; omega) | (dsimp only; omega) | (show (_ : Int) ≤ (_ : Int); omega) | (show _ < List.length _; simp only [List.length_set, List.length_append, List.length_take]; omega) | (show wantB _ _ = true; simp <;> omega) | (show (_ : Bool) = _; simp_all; done) | (exfalso; omega) | refine aRegion_auto (by decide +kernel) ?_ | fail))
        refine ⟨q + 1, by show q + 1 ≤ l.length; omega, by show l.length - (q + 1) < l.length - q; omega, Ent.sub ?_ ?_⟩
        · rw [hdn]
        · rw [hdn]; (repeat' (first | exact trivial | exact rfl | refine And.intro ?_ ?_))
  · obtain rfl : q = l.length := by omega
    rw [List.take_length] at hps
    rw [hps] at hK
    (repeat' (first | exact trivial | exact fun h => h | refine And.intro ?_ ?_ | (intro hb; try simp at hb) | omega | exact rfl | exact Nat.le_refl _ | (show _ + 1 ≤ 4294967296; omega) | (show _ + 1 ≤ 5864062014634; omega) | (dsimp only; omega) | (show (_ : Int) ≤ (_ : Int); omega) | (show _ < List.length _; simp only [List.length_set, List.length_append, List.length_take]; omega) | (show wantB _ _ = true; simp <;> omega) | (show (_ : Bool) = _; simp_all; done) | (exfalso; omega) | refine aRegion_auto (by decide +kernel) ?_ | fail))
    refine ⟨_, _, (REnt.conv1 (.dat (.list SpT)) _ rfl ?_).trans (REnt.drop ⟨rfl, rfl⟩), ?_⟩
    · (repeat' (first | exact trivial | refine And.intro ?_ ?_ | (show _ ≤ _; omega) | (show _ ≤ _; simp; done)))
    · refine (congrArg (fun l => K (.fz (.list SpT) l) []) (?_ : List.take ps.length (List.drop 0 ps) = ps)).mpr hK
      rw [List.drop_zero, List.take_length]
end Go.Proofs.YtcfalmdfohphoaaDoor
/-
  What the laws on maps ask by the way.
-/
namespace Go.Proofs.YtcfalmdfohphoaaDoor
open Go Go.Ab
set_option maxRecDepth 100000
/-- so few pieces that all can be looked at (or too many) -/
def fewA (m : Shp.Arcs) : Prop := (wr (Shp.tot m m.length) ≤ 60 ∧ m.length ≤ 70) ∨ (4000 < wr (Shp.tot m m.length) ∧ wr (Shp.tot m m.length) < 4100)
instance (m : Shp.Arcs) : Decidable (fewA m) := by unfold fewA; infer_instance
theorem fewArcs_any (G : List (Nat × Value)) (m : Shp.Arcs) (hl : m.length ≤ 1000000000000000) (K : AV → List AO → Prop) (hK : K (.fz .bool (decide (fewA m))) []) : ACall Tryd.prog G 8 [.fptr MpT m] [] K := by
  have hat : ∀ i : Nat, List.getD m (Int.toNat (i : Int)) SpT.list.dft = Shp.arc m i := fun i => rfl
  refine acall_mk (E := envAt G 44 0) (envOk _ _ _) Tryd.func8 rfl rfl rfl rfl rfl ?_
  (repeat' (first | exact trivial | exact fun h => h | refine And.intro ?_ ?_ | (intro hb; try simp at hb) | omega | exact rfl | exact Nat.le_refl _ | (show _ + 1 ≤ 4294967296; omega) | (show _ + 1 ≤ 5864062014634; omega) | (dsimp only; omega) | (show (_ : Int) ≤ (_ : Int); omega) | (show _ < List.length _; simp only [List.length_set, List.length_append, List.length_take]; omega) | (show wantB _ _ = true; simp <;> omega) | (show (_ : Bool) = _; simp_all; done) | (exfalso; omega) | refine aRegion_auto (by decide +kernel) ?_ | fail))
  refine ⟨Nat, fun i => ⟨[(0, .fptr MpT m), (3, .fz int (wr (Shp.tot m i))), (4, .fz int i), (1000003, .unk)], []⟩, fun i => i ≤ m.length, fun i => m.length - i, 0, Nat.zero_le _, Ent.sub rfl ?_, ?_⟩
  · (repeat' (first | exact trivial | exact rfl | refine And.intro ?_ ?_))
  intro i hi
  have hi : i ≤ m.length := hi
  obtain ⟨n, hn⟩ : ∃ n, Shp.tot m i = n := ⟨_, rfl⟩
  show awp _ _ _ ⟨[(0, .fptr MpT m), (3, .fz int (wr (Shp.tot m i))), (4, .fz int i), (1000003, .unk)], []⟩
  rw [hn]
  by_cases hil : i < m.length
  · obtain ⟨a, ha⟩ : ∃ a, Shp.arc m i = a := ⟨_, rfl⟩
    have hg := hat i
    have hnx := Shp.tot_next hil
    rw [ha] at hg hnx
    rw [hn] at hnx
    (repeat' (first | exact trivial | exact fun h => h | refine And.intro ?_ ?_ | (intro hb; try simp at hb) | omega | exact rfl | exact Nat.le_refl _ | (show _ + 1 ≤ 4294967296; omega) | (show _ + 1 ≤ 5864062014634; omega) | (dsimp only; omega) | (show (_ : Int) ≤ (_ : Int); omega) | (show _ < List.length _; simp only [List.length_set, List.length_append, List.length_take]; omega) | (show wantB _ _ = true; simp <;> omega) | (show (_ : Bool) = _; simp_all; done) | (exfalso; omega) | refine aRegion_auto (by decide +kernel) ?_ | fail))
    rw [hg]
    (repeat' (first | exact trivial | exact fun h => h | refine And.intro ?_ ?_ | (intro hb; try simp at hb) | omega | exact rfl | exact Nat.le_refl _ | (show _ + 1 ≤ 4294967296; omega) | (show _ + 1 ≤ 5864062014634; omega) | (dsimp only; omega) | (show (_ : Int) ≤ (_ : Int); omega) | (show _ < List.length _; simp only [List.length_set, List.length_append, List.length_take]; omega) | (show wantB _ _ = true; simp <;> omega) | (show (_ : Bool) = _; simp_all; done) | (exfalso; omega) | refine aRegion_auto (by decide +kernel) ?_ | fail))
    refine aact_addW (a := wr n) (b := (a.length : Int)) rfl rfl ?_
    rw [wr_add, ← hnx]
    (repeat' (first | exact trivial | exact fun h => h | refine And.intro ?_ ?_ | (intro hb; try simp at hb) | omega | exact rfl | exact Nat.le_refl _ | (show _ + 1 ≤ 4294967296; omega) | (show _ + 1 ≤ 5864062014634; omega) | (dsimp only; omega) | (show (_ : Int) ≤ (_ : Int); omega) | (show _ < List.length _; simp only [List.length_set, List.length_append, List.length_take]; omega) | (show wantB _ _ = true; simp <;> omega) | (show (_ : Bool) = _; simp_all; done) | (exfalso; omega) | refine aRegion_auto (by decide +kernel) ?_ | fail))
    refine aact_addW (a := (i : Int)) (b := 1) rfl rfl ?_
    rw [show IntKind.i64.wrap ((i : Int) + 1) = (i : Int) + 1 from I64.wrap (by unfold I64; omega)]
    (repeat' (first | exact trivial | exact fun h => h | refine And.intro ?_ ?_ | (intro hb; try simp at hb) | omega | exact rfl | exact Nat.le_refl _ | (show _ + 1 ≤ 4294967296; omega) | (show _ + 1 ≤ 5864062014634; omega) | (dsimp only; omega) | (show (_ : Int) ≤ (_ : Int); omega) | (show _ < List.length _; simp only [List.length_set, List.length_append, List.length_take]; omega) | (show wantB _ _ = true; simp <;> omega) | (show (_ : Bool) = _; simp_all; done) | (exfalso; omega) | refine aRegion_auto (by decide +kernel) ?_ | fail))
    refine ⟨i + 1, by show i + 1 ≤ m.length; omega, by show m.length - (i + 1) < m.length - i; omega, Ent.sub rfl ?_⟩
    · (repeat' (first | exact trivial | exact rfl | refine And.intro ?_ ?_))
  · obtain rfl : i = m.length := by omega
    have hfw : fewA m ↔ (wr n ≤ 60 ∧ m.length ≤ 70) ∨ (4000 < wr n ∧ wr n < 4100) := by unfold fewA; rw [hn]
    obtain ⟨s, hs⟩ : ∃ s, wr n = s := ⟨_, rfl⟩
    rw [hs] at hfw ⊢
    (repeat' (first | exact trivial | exact fun h => h | refine And.intro ?_ ?_ | (intro hb; try simp at hb) | omega | exact rfl | exact Nat.le_refl _ | (show _ + 1 ≤ 4294967296; omega) | (show _ + 1 ≤ 5864062014634; omega) | (dsimp only; omega) | (show (_ : Int) ≤ (_ : Int); omega) | (show _ < List.length _; simp only [List.length_set, List.length_append, List.length_take]; omega) | (show wantB _ _ = true; simp <;> omega) | (show (_ : Bool) = _; simp_all; done) | (exfalso; omega) | refine aRegion_auto (by decide +kernel) ?_ | refine ⟨_, _, REnt.drop ⟨rfl, rfl⟩, ?_⟩ | fail))
    refine kbl hK ?_
    have hfd : decide (fewA m) = decide ((s ≤ 60 ∧ m.length ≤ 70) ∨ (4000 < s ∧ s < 4100)) := decide_eq_decide.2 hfw
    rw [hfd]
    have c : decide ((m.length : Int) ≤ 70) = decide (m.length ≤ 70) := decide_eq_decide.2 (by omega)
    rw [Bool.eq_iff_iff]
    by_cases h1 : s ≤ 60 <;> by_cases h2 : m.length ≤ 70 <;> by_cases h3 : 4000 < s <;> by_cases h4 : s < 4100 <;> simp [c, h1, h2, h3, h4]
theorem fewNil_any (G : List (Nat × Value)) (K : AV → List AO → Prop) (hK : K (.fz .bool false) []) : ACall Tryd.prog G 8 [.fz .raw (.pointer none)] [] K := by
  refine acall_mk (E := envAt G 44 0) (envOk _ _ _) Tryd.func8 rfl rfl rfl rfl rfl ?_
  (repeat' (first | exact trivial | exact fun h => h | refine And.intro ?_ ?_ | (intro hb; try simp at hb) | omega | exact rfl | exact Nat.le_refl _ | (show _ + 1 ≤ 4294967296; omega) | (show _ + 1 ≤ 5864062014634; omega) | (dsimp only; omega) | (show (_ : Int) ≤ (_ : Int); omega) | (show _ < List.length _; simp only [List.length_set, List.length_append, List.length_take]; omega) | (show wantB _ _ = true; simp <;> omega) | (show (_ : Bool) = _; simp_all; done) | (exfalso; omega) | refine aRegion_auto (by decide +kernel) ?_ | refine ⟨_, _, REnt.drop ⟨rfl, rfl⟩, ?_⟩ | fail))
  exact hK
set_option maxHeartbeats 4000000 in
theorem drawn_any (G : List (Nat × Value)) (m : Shp.Arcs) (hl : m.length ≤ 5864062014634) (hlen : ∀ i, i < m.length → (Shp.arc m i).length ≤ 8796093022208) (K : AV → List AO → Prop) (hK : K (.fz MpT m) []) : ACall Tryd.prog G 11 [.fptr MpT m] [] K := by
  refine acall_mk (E := envAt G 31 0) (envOk _ _ _) Tryd.func11 rfl rfl rfl rfl rfl ?_
  (repeat' (first | exact trivial | exact fun h => h | refine And.intro ?_ ?_ | (intro hb; try simp at hb) | omega | exact rfl | exact Nat.le_refl _ | (show _ + 1 ≤ 4294967296; omega) | (show _ + 1 ≤ 5864062014634; omega) | (dsimp only; omega) | (show (_ : Int) ≤ (_ : Int); omega) | (show _ < List.length _; simp only [List.length_set, List.length_append, List.length_take]; omega) | (show wantB _ _ = true; simp <;> omega) | (show (_ : Bool) = _; simp_all; done) | (exfalso; omega) | refine aRegion_auto (by decide +kernel) ?_ | fail))
  refine ⟨Nat, fun i => ⟨[(0, .fptr MpT m), (2, .ptr 0 0), (3, .ptr 1 0), (4, .fz int i)], [.box [.nilSl], .box [.ref 2 0 (m.take i).length], .row (.list SpT) (m.take i)]⟩, fun i => i ≤ m.length, fun i => m.length - i, 0, Nat.zero_le _, (Ent.nilBox 1 0 (.list SpT) rfl rfl).trans (Ent.sub rfl ?_), ?_⟩
  · (repeat' (first | exact trivial | exact rfl | refine And.intro ?_ ?_))
  intro i hi
  have hi : i ≤ m.length := hi
  obtain ⟨o, ho⟩ : ∃ o, m.take i = o := ⟨_, rfl⟩
  have hol : o.length = i := by rw [← ho, List.length_take]; omega
  show awp _ _ _ ⟨[(0, .fptr MpT m), (2, .ptr 0 0), (3, .ptr 1 0), (4, .fz int i)], [.box [.nilSl], .box [.ref 2 0 (m.take i).length], .row (.list SpT) (m.take i)]⟩
  rw [ho]
  by_cases hil : i < m.length
  · obtain ⟨a, ha⟩ : ∃ a, Shp.arc m i = a := ⟨_, rfl⟩
    have hg : List.getD m (Int.toNat (i : Int)) SpT.list.dft = a := ha
    have hal := hlen i hil
    rw [ha] at hal
    have hal2 : (List.getD m (Int.toNat (i : Int)) SpT.list.dft).length ≤ 8796093022208 := by rw [hg]; exact hal
    have hnx : m.take (i + 1) = o ++ [a] := by
      rw [List.take_add_one, ho, List.getElem?_eq_getElem hil]
      have : m[i] = a := by rw [← ha]; unfold Shp.arc; rw [List.getD_eq_getElem?_getD, List.getElem?_eq_getElem hil]; rfl
      rw [this]; rfl
    have htl : List.take (List.getD m (Int.toNat (i : Int)) SpT.list.dft).length (List.drop 0 (List.getD m (Int.toNat (i : Int)) SpT.list.dft)) = a := by rw [hg, List.drop_zero, List.take_length]
    (repeat' (first | exact trivial | exact fun h => h | refine And.intro ?_ ?_ | (intro hb; try simp at hb) | omega | exact rfl | exact Nat.le_refl _ | (show _ + 1 ≤ 4294967296; omega) | (show _ + 1 ≤ 5864062014634; omega) | (dsimp only; omega) | (show (_ : Int) ≤ (_ : Int); omega) | (show _ < List.length _; simp only [List.length_set, List.length_append, List.length_take]; omega) | (show wantB _ _ = true; simp <;> omega) | (show (_ : Bool) = _; simp_all; done) | (exfalso; omega) | refine aRegion_auto (by decide +kernel) ?_ | fail))
    refine ⟨i + 1, by show i + 1 ≤ m.length; omega, by show m.length - (i + 1) < m.length - i; omega, Ent.ren [0, 1, 5] rfl ?_ ?_⟩
    · (repeat' (first | exact trivial | exact rfl | refine And.intro ?_ ?_))
      · exact congrArg (fun n : Nat => some (AO.box [.ref 5 0 n])) (show o.length + 1 = (m.take (i + 1)).length by rw [hnx]; simp)
      · refine congrArg (fun l => some (AO.row (.list SpT) l)) (?_ : List.take o.length o ++ [List.take (List.getD m (Int.toNat (i : Int)) SpT.list.dft).length (List.drop 0 (List.getD m (Int.toNat (i : Int)) SpT.list.dft))] = m.take (i + 1))
        rw [List.take_length, htl, hnx]
    · (repeat' (first | exact trivial | exact rfl | refine And.intro ?_ ?_))
  · obtain rfl : i = m.length := by omega
    rw [List.take_length] at ho
    subst ho
    (repeat' (first | exact trivial | exact fun h => h | refine And.intro ?_ ?_ | (intro hb; try simp at hb) | omega | exact rfl | exact Nat.le_refl _ | (show _ + 1 ≤ 4294967296; omega) | (show _ + 1 ≤ 5864062014634; omega) | (dsimp only; omega) | (show (_ : Int) ≤ (_ : Int); omega) | (show _ < List.length _; simp only [List.length_set, List.length_append, List.length_take]; omega) | (show wantB _ _ = true; simp <;> omega) | (show (_ : Bool) = _; simp_all; done) | (exfalso; omega) | refine aRegion_auto (by decide +kernel) ?_ | fail))
    refine ⟨_, _, (REnt.conv1 (.dat MpT) _ rfl ?_).trans (REnt.drop ⟨rfl, rfl⟩), ?_⟩
    · (repeat' (first | exact trivial | refine And.intro ?_ ?_ | (show _ ≤ _; omega) | (show _ ≤ _; simp; done)))
    · refine (congrArg (fun l => K (.fz MpT l) []) (?_ : List.take m.length (List.drop 0 m) = m)).mpr hK
      rw [List.drop_zero, List.take_length]
abbrev LI2 : Ty := .list int
theorem sameInts5_any (G : List (Nat × Value)) (xs ys : List Int) (hx : xs.length ≤ 1000000000000) (K : AV → List AO → Prop) (hK : K (.fz .bool (decide (xs = ys))) []) :
    ACall Tryd.prog G 33 [.fz LI2 xs, .fz LI2 ys] [] K := by
  refine acall_mk (E := envAt G 26 0) (envOk _ _ _) Tryd.func33 rfl rfl rfl rfl rfl ?_
  by_cases hl : xs.length = ys.length
  · (repeat' (first | exact trivial | exact fun h => h | refine And.intro ?_ ?_ | (intro hb; try simp at hb) | omega | exact rfl | exact Nat.le_refl _ | (show _ + 1 ≤ 4294967296; omega) | (show _ + 1 ≤ 5864062014634; omega) | (dsimp only; omega) | (show (_ : Int) ≤ (_ : Int); omega) | (show _ < List.length _; simp only [List.length_set, List.length_append, List.length_take]; omega) | (show wantB _ _ = true; simp <;> omega) | (show (_ : Bool) = _; simp_all; done) | (exfalso; omega) | refine aRegion_auto (by decide +kernel) ?_ | fail))
    refine ⟨Nat, fun k => ⟨[(0, .fz LI2 xs), (1, .fz LI2 ys), (5, .fz int k)], []⟩, fun k => k ≤ xs.length ∧ ∀ j, j < k → xs.getD j 0 = ys.getD j 0, fun k => xs.length - k, 0, ⟨Nat.zero_le _, fun j h => absurd h (Nat.not_lt_zero _)⟩, Ent.sub rfl ?_, ?_⟩
    · (repeat' (first | exact trivial | exact rfl | refine And.intro ?_ ?_))
    intro k ⟨hk, hp⟩
    have hk : k ≤ xs.length := hk
    by_cases hk2 : k < xs.length
    · (repeat' (first | exact trivial | exact fun h => h | refine And.intro ?_ ?_ | (intro hb; try simp at hb) | omega | exact rfl | exact Nat.le_refl _ | (show _ + 1 ≤ 4294967296; omega) | (show _ + 1 ≤ 5864062014634; omega) | (dsimp only; omega) | (show (_ : Int) ≤ (_ : Int); omega) | (show _ < List.length _; simp only [List.length_set, List.length_append, List.length_take]; omega) | (show wantB _ _ = true; simp <;> omega) | (show (_ : Bool) = _; simp_all; done) | (exfalso; omega) | refine aRegion_auto (by decide +kernel) ?_ | fail))
      · have hne : xs ≠ ys := fun e => hb (by rw [e])
        refine ⟨_, _, REnt.refl _ _ _, ?_⟩
        rw [decide_eq_false hne] at hK
        exact hK
      · refine ⟨k + 1, ⟨by omega, fun j hj => ?_⟩, by show _ - _ < _ - _; omega, Ent.sub rfl ?_⟩
        · by_cases e : j = k
          · subst e; exact hb
          · exact hp j (by omega)
        · (repeat' (first | exact trivial | exact rfl | refine And.intro ?_ ?_))
    · have e : xs = ys := by
        apply List.ext_getElem hl
        intro j h1 h2
        have := hp j (by omega)
        rwa [← List.getElem_eq_getD (h := h1), ← List.getElem_eq_getD (h := h2)] at this
      rw [decide_eq_true e] at hK
      (repeat' (first | exact trivial | exact fun h => h | refine And.intro ?_ ?_ | (intro hb; try simp at hb) | omega | exact rfl | exact Nat.le_refl _ | (show _ + 1 ≤ 4294967296; omega) | (show _ + 1 ≤ 5864062014634; omega) | (dsimp only; omega) | (show (_ : Int) ≤ (_ : Int); omega) | (show _ < List.length _; simp only [List.length_set, List.length_append, List.length_take]; omega) | (show wantB _ _ = true; simp <;> omega) | (show (_ : Bool) = _; simp_all; done) | (exfalso; omega) | refine aRegion_auto (by decide +kernel) ?_ | fail))
      exact ⟨_, _, REnt.refl _ _ _, hK⟩
  · have hne : xs ≠ ys := fun e => hl (by rw [e])
    rw [decide_eq_false hne] at hK
    (repeat' (first | exact trivial | exact fun h => h | refine And.intro ?_ ?_ | (intro hb; try simp at hb) | omega | exact rfl | exact Nat.le_refl _ | (show _ + 1 ≤ 4294967296; omega) | (show _ + 1 ≤ 5864062014634; omega) | (dsimp only; omega) | (show (_ : Int) ≤ (_ : Int); omega) | (show _ < List.length _; simp only [List.length_set, List.length_append, List.length_take]; omega) | (show wantB _ _ = true; simp <;> omega) | (show (_ : Bool) = _; simp_all; done) | (exfalso; omega) | refine aRegion_auto (by decide +kernel) ?_ | fail))
    exact ⟨_, _, REnt.refl _ _ _, hK⟩
/-- alike lists of lists (the law asks this of a thing and itself alone) -/
theorem sameLists_any (G : List (Nat × Value)) (xs : List (List Int)) (hx : xs.length ≤ 1000000000000) (hxl : ∀ l ∈ xs, l.length ≤ 1000000000000) (K : AV → List AO → Prop) (hK : K (.fz .bool true) []) :
    ACall Tryd.prog G 15 [.fz (.list LI2) xs, .fz (.list LI2) xs] [] K := by
  refine acall_mk (E := envAt G 29 0) (envOk _ _ _) Tryd.func15 rfl rfl rfl rfl rfl ?_
  (repeat' (first | exact trivial | exact fun h => h | refine And.intro ?_ ?_ | (intro hb; try simp at hb) | omega | exact rfl | exact Nat.le_refl _ | (show _ + 1 ≤ 4294967296; omega) | (show _ + 1 ≤ 5864062014634; omega) | (dsimp only; omega) | (show (_ : Int) ≤ (_ : Int); omega) | (show _ < List.length _; simp only [List.length_set, List.length_append, List.length_take]; omega) | (show wantB _ _ = true; simp <;> omega) | (show (_ : Bool) = _; simp_all; done) | (exfalso; omega) | refine aRegion_auto (by decide +kernel) ?_ | fail))
  refine ⟨Nat, fun k => ⟨[(0, .fz (.list LI2) xs), (1, .fz (.list LI2) xs), (5, .fz int k)], []⟩, fun k => k ≤ xs.length, fun k => xs.length - k, 0, Nat.zero_le _, Ent.sub rfl ?_, ?_⟩
  · (repeat' (first | exact trivial | exact rfl | refine And.intro ?_ ?_))
  intro k hk
  have hk : k ≤ xs.length := hk
  by_cases hk2 : k < xs.length
  · obtain ⟨l, hl⟩ : ∃ l, List.getD xs (Int.toNat (k : Int)) LI2.dft = l := ⟨_, rfl⟩
    have hlm : l ∈ xs := by
      rw [← hl, Int.toNat_natCast, List.getD_eq_getElem?_getD, List.getElem?_eq_getElem hk2]
      exact List.getElem_mem hk2
    have hll := hxl l hlm
    (repeat' (first | exact trivial | exact fun h => h | refine And.intro ?_ ?_ | (intro hb; try simp at hb) | omega | exact rfl | exact Nat.le_refl _ | (show _ + 1 ≤ 4294967296; omega) | (show _ + 1 ≤ 5864062014634; omega) | (dsimp only; omega) | (show (_ : Int) ≤ (_ : Int); omega) | (show _ < List.length _; simp only [List.length_set, List.length_append, List.length_take]; omega) | (show wantB _ _ = true; simp <;> omega) | (show (_ : Bool) = _; simp_all; done) | (exfalso; omega) | refine aRegion_auto (by decide +kernel) ?_ | fail))
    apply exEff
    · refine acall_frame0 rfl (acall_arg (sameInts5_any _ l l hll _ ?_) (congrArg (fun z => [AV.fz LI2 z, AV.fz LI2 z]) hl.symm))
      rw [decide_eq_true rfl]
      exact ⟨rfl, rfl⟩
    (repeat' (first | exact trivial | exact fun h => h | refine And.intro ?_ ?_ | (intro hb; try simp at hb) | omega | exact rfl | exact Nat.le_refl _ | (show _ + 1 ≤ 4294967296; omega) | (show _ + 1 ≤ 5864062014634; omega) | (dsimp only; omega) | (show (_ : Int) ≤ (_ : Int); omega) | (show _ < List.length _; simp only [List.length_set, List.length_append, List.length_take]; omega) | (show wantB _ _ = true; simp <;> omega) | (show (_ : Bool) = _; simp_all; done) | (exfalso; omega) | refine aRegion_auto (by decide +kernel) ?_ | fail))
    refine ⟨k + 1, by show k + 1 ≤ xs.length; omega, by show xs.length - (k + 1) < xs.length - k; omega, Ent.sub rfl ?_⟩
    · (repeat' (first | exact trivial | exact rfl | refine And.intro ?_ ?_))
  · (repeat' (first | exact trivial | exact fun h => h | refine And.intro ?_ ?_ | (intro hb; try simp at hb) | omega | exact rfl | exact Nat.le_refl _ | (show _ + 1 ≤ 4294967296; omega) | (show _ + 1 ≤ 5864062014634; omega) | (dsimp only; omega) | (show (_ : Int) ≤ (_ : Int); omega) | (show _ < List.length _; simp only [List.length_set, List.length_append, List.length_take]; omega) | (show wantB _ _ = true; simp <;> omega) | (show (_ : Bool) = _; simp_all; done) | (exfalso; omega) | refine aRegion_auto (by decide +kernel) ?_ | fail))
    exact ⟨_, _, REnt.refl _ _ _, hK⟩
end Go.Proofs.YtcfalmdfohphoaaDoor
/-
  ShapeFaces: the walk.
-/
namespace Go.Proofs.YtcfalmdfohphoaaDoor
open Go Go.Ab
set_option maxRecDepth 100000
def mp0 : Shp.Arcs := [[(0, 0), (1, 0)]]
theorem mp0_arc : Shp.arc mp0 0 = [(0, 0), (1, 0)] := rfl
theorem mp0_ok : Shp.vE ngB mp0 = 0 := by
  refine Shp.vE_ok (by decide +kernel) (fun i hi => ?_) ⟨fun i k j n ⟨h1, h2⟩ ⟨h3, h4⟩ h5 => ?_, fun i t j u ⟨h1, h2⟩ h3 h4 => ?_⟩
  · obtain rfl : i = 0 := by have : i < 1 := hi; omega
    decide +kernel
  · have h1 : i < 1 := h1
    have h3 : j < 1 := h3
    obtain rfl : i = 0 := by omega
    obtain rfl : j = 0 := by omega
    have h2 : k + 1 < 2 := h2
    omega
  · have h1 : i < 1 := h1
    obtain rfl : i = 0 := by omega
    have h4 : t + 1 < 2 := h4
    omega
theorem mp0_rounds : Shp.rounds (Shp.nof mp0) mp0.length = [[1, -1]] := by decide +kernel
theorem mapped_any (E : Errs) (K : AV → List AO → Prop) (hK : K (.fz .bool true) []) : ACall Tryd.prog (G8 E) 7 [] [] K := by
  have hlen : ∀ i, i < mp0.length → (Shp.arc mp0 i).length ≤ 8796093022208 := fun i hi => by
    obtain rfl : i = 0 := by have : i < 1 := hi; omega
    decide +kernel
  refine acall_mk (E := envAt (G8 E) 26 0) (envOk _ _ _) Tryd.func7 rfl rfl rfl rfl rfl ?_
  (repeat' (first | exact trivial | exact fun h => h | refine And.intro ?_ ?_ | (intro hb; try simp at hb) | omega | exact rfl | exact Nat.le_refl _ | (show _ + 1 ≤ 4294967296; omega) | (show _ + 1 ≤ 5864062014634; omega) | (dsimp only; omega) | (show (_ : Int) ≤ (_ : Int); omega) | (show _ < List.length _; simp only [List.length_set, List.length_append, List.length_take]; omega) | (show wantB _ _ = true; simp <;> omega) | (show (_ : Bool) = _; simp_all; done) | (exfalso; omega) | refine aRegion_auto (by decide +kernel) ?_ | refine ⟨_, _, REnt.drop ⟨rfl, rfl⟩, ?_⟩ | fail))
  refine acall_conv [.dat MpT] _ _ _ rfl ?_ (acall_frame0 rfl (acall_arg (faces_any E mp0 (by decide) hlen _ (fun _ => ?_) (fun h => (h mp0_ok).elim)) rfl))
  · (repeat' (first | exact trivial | refine And.intro ?_ ?_ | (show _ ≤ _; omega) | (show _ ≤ _; simp; done)))
  · rw [mp0_rounds]
    (repeat' (first | exact trivial | exact fun h => h | refine And.intro ?_ ?_ | (intro hb; try simp at hb) | omega | exact rfl | exact Nat.le_refl _ | (show _ + 1 ≤ 4294967296; omega) | (show _ + 1 ≤ 5864062014634; omega) | (dsimp only; omega) | (show (_ : Int) ≤ (_ : Int); omega) | (show _ < List.length _; simp only [List.length_set, List.length_append, List.length_take]; omega) | (show wantB _ _ = true; simp <;> omega) | (show (_ : Bool) = _; simp_all; done) | (exfalso; omega) | refine aRegion_auto (by decide +kernel) ?_ | refine ⟨_, _, REnt.drop ⟨rfl, rfl⟩, ?_⟩ | fail))
    · show (0 : Int) < 1
      decide
    · exact hK
set_option maxHeartbeats 8000000 in
theorem shapeFaces_any {E : Errs} (hE : (EL E).Nodup) (m : Shp.Arcs) (hl : m.length ≤ 5864062014634) (hlen : ∀ i, i < m.length → (Shp.arc m i).length ≤ 8796093022208) (K : AV → List AO → Prop) (hK : K (.fz .bool true) []) :
    ACall Tryd.prog (G8 E) 5 [.fptr MpT m] [] K := by
  have hl2 : m.length ≤ 1000000000000000 := by omega
  have hle := Shp.vE_le ngB m
  refine acall_mk (E := envAt (G8 E) 110 0) (envOk _ _ _) Tryd.func5 rfl rfl rfl rfl rfl ?_
  (repeat' (first | exact trivial | exact fun h => h | refine And.intro ?_ ?_ | (intro hb; try simp at hb) | omega | exact rfl | exact Nat.le_refl _ | (show _ + 1 ≤ 4294967296; omega) | (show _ + 1 ≤ 5864062014634; omega) | (dsimp only; omega) | (show (_ : Int) ≤ (_ : Int); omega) | (show _ < List.length _; simp only [List.length_set, List.length_append, List.length_take]; omega) | (show wantB _ _ = true; simp <;> omega) | (show (_ : Bool) = _; simp_all; done) | (exfalso; omega) | refine aRegion_auto (by decide +kernel) ?_ | refine ⟨_, _, REnt.drop ⟨rfl, rfl⟩, ?_⟩ | fail))
  refine acall_frame0 rfl (mapped_any E _ ?_)
  (repeat' (first | exact trivial | exact fun h => h | refine And.intro ?_ ?_ | (intro hb; try simp at hb) | omega | exact rfl | exact Nat.le_refl _ | (show _ + 1 ≤ 4294967296; omega) | (show _ + 1 ≤ 5864062014634; omega) | (dsimp only; omega) | (show (_ : Int) ≤ (_ : Int); omega) | (show _ < List.length _; simp only [List.length_set, List.length_append, List.length_take]; omega) | (show wantB _ _ = true; simp <;> omega) | (show (_ : Bool) = _; simp_all; done) | (exfalso; omega) | refine aRegion_auto (by decide +kernel) ?_ | refine ⟨_, _, REnt.drop ⟨rfl, rfl⟩, ?_⟩ | fail))
  refine acall_frame0 rfl (fewArcs_any _ m hl2 _ ?_)
  by_cases hf : fewA m
  case neg =>
    rw [decide_eq_false hf]
    (repeat' (first | exact trivial | exact fun h => h | refine And.intro ?_ ?_ | (intro hb; try simp at hb) | omega | exact rfl | exact Nat.le_refl _ | (show _ + 1 ≤ 4294967296; omega) | (show _ + 1 ≤ 5864062014634; omega) | (dsimp only; omega) | (show (_ : Int) ≤ (_ : Int); omega) | (show _ < List.length _; simp only [List.length_set, List.length_append, List.length_take]; omega) | (show wantB _ _ = true; simp <;> omega) | (show (_ : Bool) = _; simp_all; done) | (exfalso; omega) | refine aRegion_auto (by decide +kernel) ?_ | refine ⟨_, _, REnt.drop ⟨rfl, rfl⟩, ?_⟩ | fail))
    exact hK
  rw [decide_eq_true hf]
  have h60 : Shp.vE ngB m = 0 → Shp.tot m m.length ≤ 60 := fun h => by
    obtain ⟨⟨h1, h2⟩, _⟩ := Shp.vE_zero h
    have hs := Shp.tot_wr hlen (by omega)
    rcases hf with h3 | h3
    · omega
    · omega
  (repeat' (first | exact trivial | exact fun h => h | refine And.intro ?_ ?_ | (intro hb; try simp at hb) | omega | exact rfl | exact Nat.le_refl _ | (show _ + 1 ≤ 4294967296; omega) | (show _ + 1 ≤ 5864062014634; omega) | (dsimp only; omega) | (show (_ : Int) ≤ (_ : Int); omega) | (show _ < List.length _; simp only [List.length_set, List.length_append, List.length_take]; omega) | (show wantB _ _ = true; simp <;> omega) | (show (_ : Bool) = _; simp_all; done) | (exfalso; omega) | refine aRegion_auto (by decide +kernel) ?_ | refine ⟨_, _, REnt.drop ⟨rfl, rfl⟩, ?_⟩ | fail))
  refine acall_frame0 rfl (mapError_any _ m hl2 hlen _ ?_)
  (repeat' (first | exact trivial | exact fun h => h | refine And.intro ?_ ?_ | (intro hb; try simp at hb) | omega | exact rfl | exact Nat.le_refl _ | (show _ + 1 ≤ 4294967296; omega) | (show _ + 1 ≤ 5864062014634; omega) | (dsimp only; omega) | (show (_ : Int) ≤ (_ : Int); omega) | (show _ < List.length _; simp only [List.length_set, List.length_append, List.length_take]; omega) | (show wantB _ _ = true; simp <;> omega) | (show (_ : Bool) = _; simp_all; done) | (exfalso; omega) | refine aRegion_auto (by decide +kernel) ?_ | refine ⟨_, _, REnt.drop ⟨rfl, rfl⟩, ?_⟩ | fail))
  refine acall_frame0 rfl (drawn_any _ m hl hlen _ ?_)
  (repeat' (first | exact trivial | exact fun h => h | refine And.intro ?_ ?_ | (intro hb; try simp at hb) | omega | exact rfl | exact Nat.le_refl _ | (show _ + 1 ≤ 4294967296; omega) | (show _ + 1 ≤ 5864062014634; omega) | (dsimp only; omega) | (show (_ : Int) ≤ (_ : Int); omega) | (show _ < List.length _; simp only [List.length_set, List.length_append, List.length_take]; omega) | (show wantB _ _ = true; simp <;> omega) | (show (_ : Bool) = _; simp_all; done) | (exfalso; omega) | refine aRegion_auto (by decide +kernel) ?_ | refine ⟨_, _, REnt.drop ⟨rfl, rfl⟩, ?_⟩ | fail))
  refine acall_frame0 rfl (valid_any E m hl2 hlen _ ?_)
  (repeat' (first | exact trivial | exact fun h => h | refine And.intro ?_ ?_ | (intro hb; try simp at hb) | omega | exact rfl | exact Nat.le_refl _ | (show _ + 1 ≤ 4294967296; omega) | (show _ + 1 ≤ 5864062014634; omega) | (dsimp only; omega) | (show (_ : Int) ≤ (_ : Int); omega) | (show _ < List.length _; simp only [List.length_set, List.length_append, List.length_take]; omega) | (show wantB _ _ = true; simp <;> omega) | (show (_ : Bool) = _; simp_all; done) | (exfalso; omega) | refine aRegion_auto (by decide +kernel) ?_ | refine ⟨_, _, REnt.drop ⟨rfl, rfl⟩, ?_⟩ | fail))
  refine acall_frame0 rfl (coded_mercatorlaw5 hE (by omega) (Shp.vE ngB m : Nat) _ ?_)
  rw [decide_eq_true (show ((Shp.vE ngB m : Nat) : Int) = ((Shp.vE ngB m : Nat) : Int) from rfl)]
  (repeat' (first | exact trivial | exact fun h => h | refine And.intro ?_ ?_ | (intro hb; try simp at hb) | omega | exact rfl | exact Nat.le_refl _ | (show _ + 1 ≤ 4294967296; omega) | (show _ + 1 ≤ 5864062014634; omega) | (dsimp only; omega) | (show (_ : Int) ≤ (_ : Int); omega) | (show _ < List.length _; simp only [List.length_set, List.length_append, List.length_take]; omega) | (show wantB _ _ = true; simp <;> omega) | (show (_ : Bool) = _; simp_all; done) | (exfalso; omega) | refine aRegion_auto (by decide +kernel) ?_ | refine ⟨_, _, REnt.drop ⟨rfl, rfl⟩, ?_⟩ | fail))
  refine acall_frame0 rfl (drawn_any _ m hl hlen _ ?_)
  (repeat' (first | exact trivial | exact fun h => h | refine And.intro ?_ ?_ | (intro hb; try simp at hb) | omega | exact rfl | exact Nat.le_refl _ | (show _ + 1 ≤ 4294967296; omega) | (show _ + 1 ≤ 5864062014634; omega) | (dsimp only; omega) | (show (_ : Int) ≤ (_ : Int); omega) | (show _ < List.length _; simp only [List.length_set, List.length_append, List.length_take]; omega) | (show wantB _ _ = true; simp <;> omega) | (show (_ : Bool) = _; simp_all; done) | (exfalso; omega) | refine aRegion_auto (by decide +kernel) ?_ | refine ⟨_, _, REnt.drop ⟨rfl, rfl⟩, ?_⟩ | fail))
  by_cases h0 : Shp.vE ngB m = 0
  · obtain ⟨B, R⟩ := right_of h0
    have h60 := h60 h0
    have hnf := Shp.nof_way (m := m)
    have hrm := Shp.rounds_mem hnf
    have hrl := Shp.rounds_len (Shp.nof m) m.length
    have hfew := B.few
    have hpk := fun (l : List Int) (hl : l ∈ Shp.rounds (Shp.nof m) m.length) => pts_ok B h60 (hrm l hl).1 (hrm l hl).2
    have hro := roundsOf_any (G8 E) m B
    refine acall_frame0 rfl (faces_any E m hl2 hlen _ (fun _ => ?_) (fun h => (h h0).elim))
    (repeat' (first | exact trivial | exact fun h => h | refine And.intro ?_ ?_ | (intro hb; try simp at hb) | omega | exact rfl | exact Nat.le_refl _ | (show _ + 1 ≤ 4294967296; omega) | (show _ + 1 ≤ 5864062014634; omega) | (dsimp only; omega) | (show (_ : Int) ≤ (_ : Int); omega) | (show _ < List.length _; simp only [List.length_set, List.length_append, List.length_take]; omega) | (show wantB _ _ = true; simp <;> omega) | (show (_ : Bool) = _; simp_all; done) | (exfalso; omega) | refine aRegion_auto (by decide +kernel) ?_ | refine ⟨_, _, REnt.drop ⟨rfl, rfl⟩, ?_⟩ | fail))
    refine acall_frame0 rfl (drawn_any _ m hl hlen _ ?_)
    (repeat' (first | exact trivial | exact fun h => h | refine And.intro ?_ ?_ | (intro hb; try simp at hb) | omega | exact rfl | exact Nat.le_refl _ | (show _ + 1 ≤ 4294967296; omega) | (show _ + 1 ≤ 5864062014634; omega) | (dsimp only; omega) | (show (_ : Int) ≤ (_ : Int); omega) | (show _ < List.length _; simp only [List.length_set, List.length_append, List.length_take]; omega) | (show wantB _ _ = true; simp <;> omega) | (show (_ : Bool) = _; simp_all; done) | (exfalso; omega) | refine aRegion_auto (by decide +kernel) ?_ | refine ⟨_, _, REnt.drop ⟨rfl, rfl⟩, ?_⟩ | fail))
    refine acall_frame0 rfl (sizes_any E m hl2 hlen (fun _ => h60) _ (fun _ => ?_) (fun h => (h h0).elim))
    obtain ⟨fs, hfs⟩ : ∃ fs, Shp.rounds (Shp.nof m) m.length = fs := ⟨_, rfl⟩
    rw [hfs] at hrm hrl hpk hro ⊢
    rw [h0]
    have hsl : (szs m fs).length = fs.length := by unfold szs; rw [List.length_map]
    (repeat' (first | exact trivial | exact fun h => h | refine And.intro ?_ ?_ | (intro hb; try simp at hb) | omega | exact rfl | exact Nat.le_refl _ | (show _ + 1 ≤ 4294967296; omega) | (show _ + 1 ≤ 5864062014634; omega) | (dsimp only; omega) | (show (_ : Int) ≤ (_ : Int); omega) | (show _ < List.length _; simp only [List.length_set, List.length_append, List.length_take]; omega) | (show wantB _ _ = true; simp <;> omega) | (show (_ : Bool) = _; simp_all; done) | (exfalso; omega) | refine aRegion_auto (by decide +kernel) ?_ | refine ⟨_, _, REnt.drop ⟨rfl, rfl⟩, ?_⟩ | fail))
    refine acall_frame0 rfl (hro _ ?_)
    (repeat' (first | exact trivial | exact fun h => h | refine And.intro ?_ ?_ | (intro hb; try simp at hb) | omega | exact rfl | exact Nat.le_refl _ | (show _ + 1 ≤ 4294967296; omega) | (show _ + 1 ≤ 5864062014634; omega) | (dsimp only; omega) | (show (_ : Int) ≤ (_ : Int); omega) | (show _ < List.length _; simp only [List.length_set, List.length_append, List.length_take]; omega) | (show wantB _ _ = true; simp <;> omega) | (show (_ : Bool) = _; simp_all; done) | (exfalso; omega) | refine aRegion_auto (by decide +kernel) ?_ | refine ⟨_, _, REnt.drop ⟨rfl, rfl⟩, ?_⟩ | fail))
    refine acall_frame0 rfl (sameLists_any _ fs (by omega) (fun l hl => by have := (hrm l hl).2; omega) _ ?_)
    (repeat' (first | exact trivial | exact fun h => h | refine And.intro ?_ ?_ | (intro hb; try simp at hb) | omega | exact rfl | exact Nat.le_refl _ | (show _ + 1 ≤ 4294967296; omega) | (show _ + 1 ≤ 5864062014634; omega) | (dsimp only; omega) | (show (_ : Int) ≤ (_ : Int); omega) | (show _ < List.length _; simp only [List.length_set, List.length_append, List.length_take]; omega) | (show wantB _ _ = true; simp <;> omega) | (show (_ : Bool) = _; simp_all; done) | (exfalso; omega) | refine aRegion_auto (by decide +kernel) ?_ | refine ⟨_, _, REnt.drop ⟨rfl, rfl⟩, ?_⟩ | fail))
    refine ⟨Nat, fun i => ⟨[(0, .fptr MpT m), (9, .fz (.list int) (szs m fs)), (11, .fz (.list (.list int)) fs), (13, .fz int i)], []⟩, fun i => i ≤ fs.length, fun i => fs.length - i, 0, Nat.zero_le _, Ent.sub rfl ?_, ?_⟩
    · (repeat' (first | exact trivial | exact rfl | refine And.intro ?_ ?_))
    intro i hi
    have hi : i ≤ fs.length := hi
    by_cases hil : i < fs.length
    · obtain ⟨l, hl0⟩ : ∃ l, fs[i] = l := ⟨_, rfl⟩
      have hlm : l ∈ fs := by rw [← hl0]; exact List.getElem_mem hil
      have hgl : List.getD fs (Int.toNat (i : Int)) (Ty.list int).dft = l := by rw [Int.toNat_natCast, List.getD_eq_getElem?_getD, List.getElem?_eq_getElem hil]; exact hl0
      have hgs : List.getD (szs m fs) (Int.toNat (i : Int)) int.dft = Shp.area (Shp.pts m l) := by
        rw [Int.toNat_natCast, List.getD_eq_getElem?_getD]
        unfold szs
        rw [List.getElem?_map, List.getElem?_eq_getElem hil, hl0]; rfl
      obtain ⟨hp1, hp2⟩ := hpk l hlm
      obtain ⟨hw1, hw2⟩ := hrm l hlm
      have gs2 : (szs m fs)[i]?.getD int.dft = Shp.area (Shp.pts m l) := by rw [← hgs, Int.toNat_natCast, List.getD_eq_getElem?_getD]
      (repeat' (first | exact trivial | exact fun h => h | refine And.intro ?_ ?_ | (intro hb; try simp at hb) | omega | exact rfl | exact Nat.le_refl _ | (show _ + 1 ≤ 4294967296; omega) | (show _ + 1 ≤ 5864062014634; omega) | (dsimp only; omega) | (show (_ : Int) ≤ (_ : Int); omega) | (show _ < List.length _; simp only [List.length_set, List.length_append, List.length_take]; omega) | (show wantB _ _ = true; simp <;> omega) | (show (_ : Bool) = _; simp_all; done) | (exfalso; omega) | refine aRegion_auto (by decide +kernel) ?_ | refine ⟨_, _, REnt.drop ⟨rfl, rfl⟩, ?_⟩ | fail))
      apply exEff
      · refine acall_frame0 rfl (acall_arg (pointsOf_any _ m B l hw1 (by omega) hp1 _ ?_) (congrArg (fun z => [AV.fptr MpT m, AV.fz (.list int) z]) hgl.symm))
        exact ⟨rfl, rfl⟩
      (repeat' (first | exact trivial | exact fun h => h | refine And.intro ?_ ?_ | (intro hb; try simp at hb) | omega | exact rfl | exact Nat.le_refl _ | (show _ + 1 ≤ 4294967296; omega) | (show _ + 1 ≤ 5864062014634; omega) | (dsimp only; omega) | (show (_ : Int) ≤ (_ : Int); omega) | (show _ < List.length _; simp only [List.length_set, List.length_append, List.length_take]; omega) | (show wantB _ _ = true; simp <;> omega) | (show (_ : Bool) = _; simp_all; done) | (exfalso; omega) | refine aRegion_auto (by decide +kernel) ?_ | refine ⟨_, _, REnt.drop ⟨rfl, rfl⟩, ?_⟩ | fail))
      apply exEff
      · refine acall_frame0 rfl (areaOf2_any _ (Shp.pts m l) hp1 hp2 _ ?_)
        exact ⟨rfl, rfl⟩
      (repeat' (first | exact trivial | exact fun h => h | refine And.intro ?_ ?_ | (intro hb; try simp at hb) | omega | exact rfl | exact Nat.le_refl _ | (show _ + 1 ≤ 4294967296; omega) | (show _ + 1 ≤ 5864062014634; omega) | (dsimp only; omega) | (show (_ : Int) ≤ (_ : Int); omega) | (show _ < List.length _; simp only [List.length_set, List.length_append, List.length_take]; omega) | (show wantB _ _ = true; simp <;> omega) | (show (_ : Bool) = _; simp_all; done) | (exfalso; omega) | refine aRegion_auto (by decide +kernel) ?_ | refine ⟨_, _, REnt.drop ⟨rfl, rfl⟩, ?_⟩ | fail))
      refine ⟨i + 1, by show i + 1 ≤ fs.length; omega, by show fs.length - (i + 1) < fs.length - i; omega, Ent.sub rfl ?_⟩
      · (repeat' (first | exact trivial | exact rfl | refine And.intro ?_ ?_))
    · (repeat' (first | exact trivial | exact fun h => h | refine And.intro ?_ ?_ | (intro hb; try simp at hb) | omega | exact rfl | exact Nat.le_refl _ | (show _ + 1 ≤ 4294967296; omega) | (show _ + 1 ≤ 5864062014634; omega) | (dsimp only; omega) | (show (_ : Int) ≤ (_ : Int); omega) | (show _ < List.length _; simp only [List.length_set, List.length_append, List.length_take]; omega) | (show wantB _ _ = true; simp <;> omega) | (show (_ : Bool) = _; simp_all; done) | (exfalso; omega) | refine aRegion_auto (by decide +kernel) ?_ | refine ⟨_, _, REnt.drop ⟨rfl, rfl⟩, ?_⟩ | fail))
      exact hK
  · obtain ⟨e, he⟩ : ∃ e, Shp.vE ngB m = e := ⟨_, rfl⟩
    refine acall_frame0 rfl (faces_any E m hl2 hlen _ (fun h => (h0 h).elim) (fun _ => ?_))
    (repeat' (first | exact trivial | exact fun h => h | refine And.intro ?_ ?_ | (intro hb; try simp at hb) | omega | exact rfl | exact Nat.le_refl _ | (show _ + 1 ≤ 4294967296; omega) | (show _ + 1 ≤ 5864062014634; omega) | (dsimp only; omega) | (show (_ : Int) ≤ (_ : Int); omega) | (show _ < List.length _; simp only [List.length_set, List.length_append, List.length_take]; omega) | (show wantB _ _ = true; simp <;> omega) | (show (_ : Bool) = _; simp_all; done) | (exfalso; omega) | refine aRegion_auto (by decide +kernel) ?_ | refine ⟨_, _, REnt.drop ⟨rfl, rfl⟩, ?_⟩ | fail))
    refine acall_frame0 rfl (drawn_any _ m hl hlen _ ?_)
    (repeat' (first | exact trivial | exact fun h => h | refine And.intro ?_ ?_ | (intro hb; try simp at hb) | omega | exact rfl | exact Nat.le_refl _ | (show _ + 1 ≤ 4294967296; omega) | (show _ + 1 ≤ 5864062014634; omega) | (dsimp only; omega) | (show (_ : Int) ≤ (_ : Int); omega) | (show _ < List.length _; simp only [List.length_set, List.length_append, List.length_take]; omega) | (show wantB _ _ = true; simp <;> omega) | (show (_ : Bool) = _; simp_all; done) | (exfalso; omega) | refine aRegion_auto (by decide +kernel) ?_ | refine ⟨_, _, REnt.drop ⟨rfl, rfl⟩, ?_⟩ | fail))
    refine acall_frame0 rfl (sizes_any E m hl2 hlen h60 _ (fun h => (h0 h).elim) (fun _ => ?_))
    rw [he] at h0 hle ⊢
    have hcd := decide_eq_true (show ((e : Nat) : Int) = ((e : Nat) : Int) from rfl)
    (repeat' (first | exact trivial | exact fun h => h | refine And.intro ?_ ?_ | (intro hb; try simp at hb) | omega | exact rfl | exact Nat.le_refl _ | (show _ + 1 ≤ 4294967296; omega) | (show _ + 1 ≤ 5864062014634; omega) | (dsimp only; omega) | (show (_ : Int) ≤ (_ : Int); omega) | (show _ < List.length _; simp only [List.length_set, List.length_append, List.length_take]; omega) | (show wantB _ _ = true; simp <;> omega) | (show (_ : Bool) = _; simp_all; done) | (exfalso; omega) | refine aRegion_auto (by decide +kernel) ?_ | refine ⟨_, _, REnt.drop ⟨rfl, rfl⟩, ?_⟩ | fail))
    refine acall_frame0 rfl (coded_mercatorlaw5 hE (e := e) (by omega) (e : Nat) _ ?_)
    rw [hcd]
    (repeat' (first | exact trivial | exact fun h => h | refine And.intro ?_ ?_ | (intro hb; try simp at hb) | omega | exact rfl | exact Nat.le_refl _ | (show _ + 1 ≤ 4294967296; omega) | (show _ + 1 ≤ 5864062014634; omega) | (dsimp only; omega) | (show (_ : Int) ≤ (_ : Int); omega) | (show _ < List.length _; simp only [List.length_set, List.length_append, List.length_take]; omega) | (show wantB _ _ = true; simp <;> omega) | (show (_ : Bool) = _; simp_all; done) | (exfalso; omega) | refine aRegion_auto (by decide +kernel) ?_ | refine ⟨_, _, REnt.drop ⟨rfl, rfl⟩, ?_⟩ | fail))
    refine acall_frame0 rfl (coded_mercatorlaw5 hE (e := e) (by omega) (e : Nat) _ ?_)
    rw [hcd]
    (repeat' (first | exact trivial | exact fun h => h | refine And.intro ?_ ?_ | (intro hb; try simp at hb) | omega | exact rfl | exact Nat.le_refl _ | (show _ + 1 ≤ 4294967296; omega) | (show _ + 1 ≤ 5864062014634; omega) | (dsimp only; omega) | (show (_ : Int) ≤ (_ : Int); omega) | (show _ < List.length _; simp only [List.length_set, List.length_append, List.length_take]; omega) | (show wantB _ _ = true; simp <;> omega) | (show (_ : Bool) = _; simp_all; done) | (exfalso; omega) | refine aRegion_auto (by decide +kernel) ?_ | refine ⟨_, _, REnt.drop ⟨rfl, rfl⟩, ?_⟩ | fail))
    exact hK
end Go.Proofs.YtcfalmdfohphoaaDoor
/-
  ShapeFaces at nil.
-/
namespace Go.Proofs.YtcfalmdfohphoaaDoor
open Go Go.Ab
set_option maxRecDepth 100000
theorem shapeFaces_nil {E : Errs} (K : AV → List AO → Prop) (hK : K (.fz .bool true) []) :
    ACall Tryd.prog (G8 E) 5 [.fz .raw (.pointer none)] [] K := by
  refine acall_mk (E := envAt (G8 E) 110 0) (envOk _ _ _) Tryd.func5 rfl rfl rfl rfl rfl ?_
  (repeat' (first | exact trivial | exact fun h => h | refine And.intro ?_ ?_ | (intro hb; try simp at hb) | omega | exact rfl | exact Nat.le_refl _ | (show _ + 1 ≤ 4294967296; omega) | (show _ + 1 ≤ 5864062014634; omega) | (dsimp only; omega) | (show (_ : Int) ≤ (_ : Int); omega) | (show _ < List.length _; simp only [List.length_set, List.length_append, List.length_take]; omega) | (show wantB _ _ = true; simp <;> omega) | (show (_ : Bool) = _; simp_all; done) | (exfalso; omega) | refine aRegion_auto (by decide +kernel) ?_ | refine ⟨_, _, REnt.drop ⟨rfl, rfl⟩, ?_⟩ | fail))
  refine acall_frame0 rfl (mapped_any E _ ?_)
  (repeat' (first | exact trivial | exact fun h => h | refine And.intro ?_ ?_ | (intro hb; try simp at hb) | omega | exact rfl | exact Nat.le_refl _ | (show _ + 1 ≤ 4294967296; omega) | (show _ + 1 ≤ 5864062014634; omega) | (dsimp only; omega) | (show (_ : Int) ≤ (_ : Int); omega) | (show _ < List.length _; simp only [List.length_set, List.length_append, List.length_take]; omega) | (show wantB _ _ = true; simp <;> omega) | (show (_ : Bool) = _; simp_all; done) | (exfalso; omega) | refine aRegion_auto (by decide +kernel) ?_ | refine ⟨_, _, REnt.drop ⟨rfl, rfl⟩, ?_⟩ | fail))
  refine acall_frame0 rfl (fewNil_any _ _ ?_)
  (repeat' (first | exact trivial | exact fun h => h | refine And.intro ?_ ?_ | (intro hb; try simp at hb) | omega | exact rfl | exact Nat.le_refl _ | (show _ + 1 ≤ 4294967296; omega) | (show _ + 1 ≤ 5864062014634; omega) | (dsimp only; omega) | (show (_ : Int) ≤ (_ : Int); omega) | (show _ < List.length _; simp only [List.length_set, List.length_append, List.length_take]; omega) | (show wantB _ _ = true; simp <;> omega) | (show (_ : Bool) = _; simp_all; done) | (exfalso; omega) | refine aRegion_auto (by decide +kernel) ?_ | refine ⟨_, _, REnt.drop ⟨rfl, rfl⟩, ?_⟩ | fail))
  exact hK
end Go.Proofs.YtcfalmdfohphoaaDoor
/-
  Arguments read again behind a call that leaves old memory alone; a slice of points opened.
-/
namespace Go.Proofs.YtcfalmdfohphoaaDoor
open Go Go.ChangeShapes Go.WideShapes Go.ChangeAt Go.RowKit
theorem trodAll_below {H : Type} {enc : TypeId × Value → H} {P : Program} (hl : laidOutB P = true) {W W' : World} (hb : Below W.heap.size W W') :
    ∀ (ts : List TypeId) (vs : List Value) (ds : List (DataW H)) (ps : List MemPlace), (∀ t ∈ ts, P.readableRec t = true ∧ t < P.types.size) →
      DataW.TrodAll enc P W 0 (fun _ => true) true ts vs ds ps → (∀ x ∈ ps, x.block < W.heap.size) →
      DataW.TrodAll enc P W' 0 (fun b => decide (b < W.heap.size)) true ts vs ds ps
  | [], [], [], ps, _, h, _ => h
  | [], [], _ :: _, _, _, h, _ => h.elim
  | [], _ :: _, _, _, _, h, _ => h.elim
  | _ :: _, [], _, _, _, h, _ => h.elim
  | _ :: _, _ :: _, [], _, _, h, _ => h.elim
  | t :: ts, v :: vs, d :: ds, ps, hr, h, hlt => by
    obtain ⟨p, q, h1, h2, rfl⟩ := h
    refine ⟨p, q, Below.trod hl (hr t (List.mem_cons_self ..)).1 (hr t (List.mem_cons_self ..)).2 h1 hb (fun x hx => hlt x (List.mem_append.2 (.inl hx))), ?_, rfl⟩
    exact trodAll_below hl hb ts vs ds q (fun t ht => hr t (List.mem_cons_of_mem _ ht)) h2 (fun x hx => hlt x (List.mem_append.2 (.inr hx)))
end Go.Proofs.YtcfalmdfohphoaaDoor
/-
  ShapeFaces answers true, whatever it is asked (no condition).
-/
namespace Go.Proofs.YtcfalmdfohphoaaDoor.shapeFaces
open Go Go.ChangeShapes Go.WideShapes Go.ChangeAt Go.RowKit Go.Ab
set_option maxRecDepth 100000
theorem own : ownKnob Tryd.prog.godebug = none := by kernel_rfl
theorem laidOut : laidOutB Tryd.prog = true := by kernel_rfl
theorem lifted (os : Os) (started : os.Started) (H : Type) (enc : TypeId × Value → H) :
    ReturnsInHanded {} Tryd.checked os 5 .any (fun w args => (Rows.shapeFacesSpec.pre enc Tryd.prog Tryd.f5 [] false w args ∧ laidMetH Tryd.prog Rows.shapeFacesRow.laid w) ∧ sizedMet enc Tryd.prog Tryd.f5 (OpenSpec.ofChange Rows.shapeFacesSpec) false w args)
      (Rows.shapeFacesSpec.post enc Tryd.prog Tryd.f5 false true false false) := by
  refine returnsInHanded_of_change_and (C := Tryd.checked) (X := fun w _ => laidMetH Tryd.prog Rows.shapeFacesRow.laid w) (fun _ _ _ hh h => h.of_heap hh) own started (by kernel_rfl) Tryd.func5
    (ChangeSpec.witness_shaped (enc := enc) (C := Tryd.checked) (os := os) (X := fun w _ => laidMetH Tryd.prog Rows.shapeFacesRow.laid w) false (World.doorLaid Tryd.prog 400 os) #[.pointer none] 8 rfl (World.shaped_of_RefB (by kernel_rfl) (by kernel_rfl)) (by kernel_rfl) (by kernel_rfl) (by kernel_rfl)
      (laidMetH_of_parts3 (fuel := 8) (laidMet_of_run' 8 (by kernel_rfl) (by kernel_rfl)) (by kernel_rfl) (by kernel_rfl))) ?_
  intro W base args ds gs before hval0 hW _ hsz0 hL _
  have hval : ∀ (j : Nat) t v, Tryd.f5.params[j]? = some t → args[j]? = some v → Value.okWide Tryd.prog W .any base t v := hval0
  have hW' := hW
  obtain ⟨p, q, hA0, hV, rfl, hfz, hnd⟩ := hW
  have hA : DataW.TrodAll enc Tryd.prog W 0 (fun _ => true) true Tryd.f5.params.toList args.toList ds p := hA0
  obtain ⟨rfl, rfl⟩ := trodVars_none hV
  simp only [List.append_nil] at hW'
  have hAll : ∀ W', Below W.heap.size W W' → DataW.TrodAll enc Tryd.prog W' 0 (fun b => decide (b < W.heap.size)) true Tryd.f5.params.toList args.toList ds p :=
    fun W' hb => trodAll_below laidOut hb _ _ _ _ (by rw [Tryd.params5]; exact of_decide_eq_true (by kernel_rfl)) hA (fun x hx => hW'.lt x hx)
  have hsz := hsz0
  clear hsz0
  rw [Tryd.params5] at hA hval
  obtain ⟨v0, vs0, d0, ds0, p0, q0, hargs, rfl, rfl, h0, t0⟩ := trodAll_cons hA
  obtain ⟨rfl, rfl, rfl⟩ := trodAll_nil t0
  obtain rfl : args = #[v0] := by cases args; simp_all
  clear hA0 hval0
  obtain ⟨E, hN, hE⟩ := globs8 hL rfl rfl
  have hsz : (DataW.weightsEach Tryd.prog ([22] ++ Rows.shapeFacesSpec.plain.varTypes Tryd.prog) ([d0] ++ [])).all (· ≤ reachBytes) = true := by have h := hsz; rw [show Tryd.checked.prog = Tryd.prog from rfl, Tryd.params5] at h; exact h
  obtain ⟨hw0, hsz⟩ := weights_first hsz
  have o0 := open_ptrW (n := 6) (ty := MpT) tabOk (show tptrTo tab 22 = some 40 by kernel_rfl) (by kernel_rfl) (G8 E) (hval 0 _ v0 rfl rfl) h0 hw0
  have fin : Calls Tryd.prog 5 #[v0] W fun e w' => e = .returned (.bool true) ∧ Below W.heap.size W w' := by
    rcases o0 with rfl | ⟨y0, r0, b0, w0⟩
    · exact acall_true (vs := [.pointer none]) (shapeFaces_nil _ rfl) hE ⟨_, _, rfl, (rel_raw rfl).2 rfl, rfl⟩
    · have w1 := w0 _ Tryd.underlying40 _ Tryd.underlying31
      rw [show Tryd.prog.bytesOf 44 = 24 by kernel_rfl] at w1
      have hl : y0.length ≤ 5864062014634 := by
        have : List.length y0 * 24 ≤ reachBytes := w1.1
        unfold reachBytes at this; omega
      have hlen : ∀ i, i < y0.length → (Shp.arc y0 i).length ≤ 8796093022208 := fun i hi => by
        have h2 := (w1.2 i hi _ Tryd.underlying44).1
        rw [show Tryd.prog.bytesOf 46 = 16 by kernel_rfl] at h2
        have h3 : Shp.arc y0 i = y0[i] := by unfold Shp.arc; rw [List.getD_eq_getElem?_getD, List.getElem?_eq_getElem hi]; rfl
        rw [h3]
        have : List.length y0[i] * 16 ≤ reachBytes := h2
        unfold reachBytes at this; omega
      exact acall_true (vs := [v0]) (shapeFaces_any hN y0 hl hlen _ rfl) hE ⟨_, _, rfl, r0, rfl⟩
  refine fin.mono fun e W' ⟨he, hg⟩ => ?_
  subst he
  exact ⟨_, rfl, _, _, _, [], _, [], hW', trodAll_mk1 (shut_bool Tryd.underlying4 _), hAll W' hg, rfl, hg.frame _, fun h => by cases h⟩
theorem row : Rows.ShapeFacesSaid :=
  OpenClaim.holds_of_wide 5 Tryd.f5 rfl rfl rfl rfl rfl rfl rfl ⟨rfl, rfl, rfl, rfl, rfl⟩ rfl rfl rfl rfl rfl (by kernel_rfl) Tryd.func5 (by kernel_rfl)
    (of_decide_eq_true (by kernel_rfl)) (by unfold Func.isWrapper; first | (rw [if_pos (by decide +kernel)]; kernel_rfl) | (rw [if_neg (by decide +kernel)]; exact ⟨rfl, rfl⟩))
    (fun os started H enc _ => lifted os started H enc)
theorem proved : Rows.ShapeFacesCardSaid :=
  Claim7.holds_tied_plain_at .later [] [.handle, .sentinel, .sentinel, .sentinel, .sentinel, .sentinel, .sentinel, .sentinel, .sentinel] true (true, "23caa00f1aea8a9207bdee5ce69086419719e306f5c717a9aa8809e8ab7f96e5") true
    row (fun _ h => by cases h) (by kernel_rfl) (fun _ h => by cases h) shapeFaces_row_tie rfl ⟨rfl, rfl⟩ (by kernel_rfl) rfl
    (fun f fn hf hfn => by
      obtain rfl : f = 5 := Option.some.inj ((show Tryd.prog.funcNamed "mercator/mercatorlaw5.ShapeFaces" = some 5 by kernel_rfl).symm.trans hf) |>.symm
      obtain rfl : fn = Tryd.f5 := (Option.some.inj (Tryd.func5.symm.trans hfn)).symm
      exact ⟨by kernel_rfl, fun j t ht => by
        rw [Tryd.params5] at ht
        have hm : t ∈ [22] := by simpa using Array.mem_of_getElem? ht
        have hall : ([22].all fun u => !Tryd.prog.wantsStandIn u) = true := by kernel_rfl
        exact (show Tryd.prog.wantsStandIn t = false by simpa using List.all_eq_true.1 hall t hm)⟩)
    (by kernel_rfl)
end Go.Proofs.YtcfalmdfohphoaaDoor.shapeFaces
