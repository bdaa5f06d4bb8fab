/-
  Plain facts on a map that loses a point that can be spared, on: the next ways and the rounds are the same (no program in sight).
-/
import Derived.Test.YtcfalmdfohphoaaDoorM10
import Derived.Test.YtcfalmdfohphoaaDoorChecked
import Derived.WalkKit
import Derived.ProofKit
import Derived.OpenShut
import Derived.Carry
import Derived.Test.YtcfalmdfohphoaaDoorTie
import Derived.Test.YtcfalmdfohphoaaDoorCards
import Derived.SevenTiedAt
import Derived.LaidMore
import Derived.Lay
import Derived.Deep.Slices
import Derived.Lib.SmallJoins
import Derived.Stop.Joined
namespace Shp
theorem CY_rot (a b c : Sp) : CY a b c ↔ CY b c a := by unfold CY; omega
theorem soon_self (f a : Sp) : soon f a a = false := by
  unfold soon
  rw [if_pos rfl, cross_self]; rfl
section
variable {m : Arcs} {i k : Nat} (R : Right m) (hi : i < m.length) (h0 : 0 < k) (hk : k + 1 < (arc m i).length) {most : Int} (hs : spP m i k most)
include hi h0 hk
theorem frm_del (v : Int) : frm (del m i k) v = frm m v := by
  unfold frm
  rw [arcOf_eq, arcOf_eq]
  by_cases c : wi v = i
  · rw [c, arc_del hi]
    have e : ((arc m i).eraseIdx k).length = (arc m i).length - 1 := by rw [List.length_eraseIdx, if_pos (by omega)]
    rw [e, at_erase, at_erase]
    have o1 : old k 0 = 0 := by unfold old; rw [if_pos h0]
    have o2 : old k ((arc m i).length - 1 - 1) = (arc m i).length - 1 := by unfold old; rw [if_neg (by omega)]; omega
    rw [o1, o2]
  · rw [arc_del_ne c]
/-- a way whose next point is left out -/
def moved' (m : Arcs) (i k : Nat) (v : Int) : Prop := wi v = i ∧ ((0 < v ∧ k = 1) ∨ (¬ 0 < v ∧ k + 2 = (arc m i).length))
theorem nxp_del {v : Int} (hn : ¬ moved' m i k v) : nxp (del m i k) v = nxp m v := by
  unfold nxp
  rw [arcOf_eq, arcOf_eq]
  by_cases c : wi v = i
  · rw [c, arc_del hi]
    have e : ((arc m i).eraseIdx k).length = (arc m i).length - 1 := by rw [List.length_eraseIdx, if_pos (by omega)]
    rw [e, at_erase, at_erase]
    by_cases g : 0 < v
    · rw [if_pos g, if_pos g]
      have : k ≠ 1 := fun e => hn ⟨c, .inl ⟨g, e⟩⟩
      unfold old
      rw [if_pos (by omega)]
    · rw [if_neg g, if_neg g]
      have : k + 2 ≠ (arc m i).length := fun e => hn ⟨c, .inr ⟨g, e⟩⟩
      unfold old
      rw [if_neg (by omega), show (arc m i).length - 1 - 2 + 1 = (arc m i).length - 2 by omega]
  · rw [arc_del_ne c]
theorem dr_del {v : Int} (hn : ¬ moved' m i k v) : dr (del m i k) v = dr m v := by
  unfold dr
  rw [nxp_del hi h0 hk hn, frm_del hi h0 hk]
theorem moved_nb {v : Int} (h : moved' m i k v) : nxp m v = pt m i k ∧ Nb m i k (frm m v) (nxp (del m i k) v) := by
  obtain ⟨c, h⟩ := h
  unfold nxp frm
  rw [arcOf_eq, arcOf_eq, c, arc_del hi]
  have e : ((arc m i).eraseIdx k).length = (arc m i).length - 1 := by rw [List.length_eraseIdx, if_pos (by omega)]
  rw [e, at_erase, at_erase]
  rcases h with ⟨g, g1⟩ | ⟨g, g1⟩
  · rw [if_pos g, if_pos g, if_pos g]
    refine ⟨by rw [g1]; rfl, ⟨.inl ⟨?_, ?_⟩⟩⟩
    · rw [g1]; rfl
    · unfold old; rw [if_neg (by omega), g1]; rfl
  · rw [if_neg g, if_neg g, if_neg g]
    refine ⟨?_, ⟨.inr ⟨?_, ?_⟩⟩⟩
    · unfold pt; congr 1; omega
    · unfold pt; congr 1; omega
    · unfold pt old; rw [if_pos (by omega)]; congr 1; omega
omit hi h0 hk in
theorem moved_piece {x : Int} (h : moved' m i k x) (h0 : 0 < k) : wi x = i ∧ (wk m x = k ∨ wk m x + 1 = k) := by
  obtain ⟨c, h⟩ := h
  refine ⟨c, ?_⟩
  unfold wk
  rw [arcOf_eq, c]
  rcases h with ⟨g, g1⟩ | ⟨g, g1⟩
  · rw [if_pos g]; omega
  · rw [if_neg g]; omega
include hs
omit hi h0 hk in
theorem moved_other {v x : Int} (hv : isWay m v) (hx : isWay m x) (h : moved' m i k v) (hf : frm m x = frm m v) (hne : x ≠ v) : ¬ (wi x = i ∧ (wk m x = k ∨ wk m x + 1 = k)) := by
  rintro ⟨c, d⟩
  obtain ⟨e, h⟩ := h
  have hxv : x = -v := by
    have := hv.1
    have := hx.1
    unfold wi at c e
    have := hv.2
    omega
  have hcl : at_ (arc m i) 0 = at_ (arc m i) ((arc m i).length - 1) := by
    unfold frm at hf
    rw [arcOf_eq, arcOf_eq, c, e] at hf
    by_cases g : 0 < v
    · rw [if_neg (by omega), if_pos g] at hf; exact hf.symm
    · rw [if_pos (by have := hv.1; omega), if_neg g] at hf; exact hf
  have h5 : 5 ≤ (arc m i).length := Classical.byContradiction fun q => hs.2.1 ⟨hcl, by omega⟩
  unfold wk at d
  rw [arcOf_eq, c] at d
  have := hv.1
  rcases h with ⟨g, g1⟩ | ⟨g, g1⟩
  · rw [if_neg (by omega)] at d; omega
  · rw [if_pos (by omega)] at d; omega
include R
theorem right_sp : Right (del m i k) := right_del R hi h0 hk (fun e => Classical.byContradiction fun q => hs.2.1 ⟨e, by omega⟩) hs.2.2.2
omit h0 hk hs hi in
theorem df_way {x y : Int} (hx : isWay m x) (hy : isWay m y) (hf : frm m x = frm m y) (hne : x ≠ y) : Df (dr m x) (dr m y) := ⟨dr_ne R hx, dr_ne R hy, dr_diff R hx hy hf hne⟩
theorem turn_one {v a b : Int} (hv : isWay m v) (ha : isWay m a) (hb : isWay m b) (fa : frm m a = frm m v) (fb : frm m b = frm m v) (na : a ≠ v) (nb : b ≠ v) (nab : a ≠ b) (h : moved' m i k v) :
    CY (dr m v) (dr m a) (dr m b) ↔ CY (dr (del m i k) v) (dr (del m i k) a) (dr (del m i k) b) := by
  have R' := right_sp R hi h0 hk hs
  have oa := moved_other hs hv ha h fa na
  have ob := moved_other hs hv hb h fb nb
  obtain ⟨hq, hN⟩ := moved_nb hi h0 hk h
  have w' : ∀ {x}, isWay m x → isWay (del m i k) x := fun {x} hx => ⟨hx.1, by rw [del_length]; exact hx.2⟩
  have f' : ∀ x, frm (del m i k) x = frm m x := frm_del hi h0 hk
  have ea := dr_del hi h0 hk (v := a) (fun q => oa (moved_piece q h0))
  have eb := dr_del hi h0 hk (v := b) (fun q => ob (moved_piece q h0))
  have d1 : dr m v = sub (pt m i k) (frm m v) := by unfold dr; rw [hq]
  have d2 : dr (del m i k) v = sub (nxp (del m i k) v) (frm m v) := by unfold dr; rw [f']
  have g3 := df_way R' (w' hv) (w' ha) (by rw [f', f', fa]) (Ne.symm na)
  have g4 := df_way R' (w' hv) (w' hb) (by rw [f', f', fb]) (Ne.symm nb)
  rw [ea] at g3
  rw [eb] at g4
  rw [ea, eb]
  refine CY_turn (df_way R hv ha fa.symm (Ne.symm na)) (df_way R hv hb fb.symm (Ne.symm nb)) g3 g4 (df_way R ha hb (fa.trans fb.symm) nab) ?_ ?_ ?_
  · rw [d1, d2]; exact hN.dots R hi h0 hk
  · rw [d1, d2]; exact hN.clear R hi h0 hk hs ha fa oa
  · rw [d1, d2]; exact hN.clear R hi h0 hk hs hb fb ob
theorem turn_any {x y z : Int} (hx : isWay m x) (hy : isWay m y) (hz : isWay m z) (fy : frm m y = frm m x) (fz : frm m z = frm m x) (nxy : x ≠ y) (nxz : x ≠ z) (nyz : y ≠ z) :
    CY (dr m x) (dr m y) (dr m z) ↔ CY (dr (del m i k) x) (dr (del m i k) y) (dr (del m i k) z) := by
  by_cases cx : moved' m i k x
  · exact turn_one R hi h0 hk hs hx hy hz fy fz (Ne.symm nxy) (Ne.symm nxz) nyz cx
  · by_cases cy : moved' m i k y
    · rw [CY_rot, CY_rot (dr (del m i k) x)]
      exact turn_one R hi h0 hk hs hy hz hx (fz.trans fy.symm) fy.symm (Ne.symm nyz) nxy (Ne.symm nxz) cy
    · by_cases cz : moved' m i k z
      · rw [← CY_rot (dr m z), ← CY_rot (dr (del m i k) z)]
        exact turn_one R hi h0 hk hs hz hx hy fz.symm (fy.trans fz.symm) nxz nyz nxy cz
      · rw [dr_del hi h0 hk cx, dr_del hi h0 hk cy, dr_del hi h0 hk cz]
theorem soon_del {f a b : Int} (hf : isWay m f) (ha : isWay m a) (hb : isWay m b) (fa : frm m a = frm m f) (fb : frm m b = frm m f) (na : a ≠ f) (nb : b ≠ f) :
    soon (dr m f) (dr m a) (dr m b) = soon (dr (del m i k) f) (dr (del m i k) a) (dr (del m i k) b) := by
  by_cases e : a = b
  · subst e; rw [soon_self, soon_self]
  · have R' := right_sp R hi h0 hk hs
    have w' : ∀ {x}, isWay m x → isWay (del m i k) x := fun {x} hx => ⟨hx.1, by rw [del_length]; exact hx.2⟩
    have f' : ∀ x, frm (del m i k) x = frm m x := frm_del hi h0 hk
    rw [Bool.eq_iff_iff, soon_iff (df_way R hf ha fa.symm (Ne.symm na)) (df_way R hf hb fb.symm (Ne.symm nb)) (df_way R ha hb (fa.trans fb.symm) e),
      soon_iff (df_way R' (w' hf) (w' ha) (by rw [f', f', fa]) (Ne.symm na)) (df_way R' (w' hf) (w' hb) (by rw [f', f', fb]) (Ne.symm nb)) (df_way R' (w' ha) (w' hb) (by rw [f', f', fa, fb]) e)]
    exact turn_any R hi h0 hk hs hb ha hf (fa.trans fb.symm) fb.symm (Ne.symm e) nb na
theorem nof_del {w : Int} (hw : isWay m w) : nof (del m i k) w = nof m w := by
  have f' : ∀ x, frm (del m i k) x = frm m x := frm_del hi h0 hk
  have hmw : isWay m (-w) := ⟨by have := hw.1; omega, by have := hw.2; omega⟩
  have key : ∀ (xs : List Int), (∀ v ∈ xs, isWay m v) → ∀ st st' : Int × Sp, (st'.1 = st.1 ∧ (st.1 ≠ 0 → isWay m st.1 ∧ frm m st.1 = frm m (-w) ∧ st.1 ≠ -w ∧ st.2 = dr m st.1 ∧ st'.2 = dr (del m i k) st.1)) →
      (xs.foldl (nst (del m i k) w) st').1 = (xs.foldl (nst m w) st).1 := by
    intro xs
    induction xs with
    | nil => exact fun _ st st' h => h.1
    | cons v xs ih =>
      intro hx st st' h
      obtain ⟨h1, h2⟩ := h
      have hv := hx v (List.mem_cons_self ..)
      rw [List.foldl_cons, List.foldl_cons]
      refine ih (fun u hu => hx u (List.mem_cons_of_mem _ hu)) _ _ ?_
      unfold nst
      rw [f', f']
      by_cases c1 : v = -w ∨ frm m v ≠ frm m (-w)
      · rw [if_pos c1, if_pos c1]; exact ⟨h1, h2⟩
      · rw [if_neg c1, if_neg c1]
        have c2 : v ≠ -w := fun e => c1 (.inl e)
        have c3 : frm m v = frm m (-w) := Classical.byContradiction fun e => c1 (.inr e)
        have new : ((v, dr (del m i k) v) : Int × Sp).1 = ((v, dr m v) : Int × Sp).1 ∧ (((v, dr m v) : Int × Sp).1 ≠ 0 → isWay m v ∧ frm m v = frm m (-w) ∧ v ≠ -w ∧ dr m v = dr m v ∧ dr (del m i k) v = dr (del m i k) v) := ⟨rfl, fun _ => ⟨hv, c3, c2, rfl, rfl⟩⟩
        by_cases z : st.1 = 0
        · rw [if_pos (.inl (h1.trans z)), if_pos (.inl z)]
          exact new
        · obtain ⟨a1, a2, a3, a4, a5⟩ := h2 z
          have hsn := soon_del R hi h0 hk hs hmw hv a1 c3 a2 c2 a3
          rw [← a4, ← a5] at hsn
          rw [h1, ← hsn]
          split
          · exact new
          · exact ⟨h1, h2⟩
  have := key (wl m.length) (fun v hv => (mem_wl _ _).1 hv) (0, (0, 0)) (0, (0, 0)) ⟨rfl, fun h => absurd rfl h⟩
  unfold nof
  rw [del_length, this]
theorem rounds_del : rounds (nof (del m i k)) (del m i k).length = rounds (nof m) m.length := by
  rw [del_length]
  have hw := nof_way (m := del m i k)
  rw [del_length] at hw
  exact rounds_congr hw fun w hw => nof_del R hi h0 hk hs hw
end
end Shp
/-
  Plain facts on a map made thinner: its faces, its ends.
-/
namespace Shp
variable {sp : Arcs → Nat → Nat → Bool}
theorem rounds_keep (most : Int) (F : List (List Int)) : keeps (spB most) (fun m => Right m ∧ rounds (nof m) m.length = F) := fun _ _ _ h hi h0 hk hs =>
  ⟨right_spP h.1 hi h0 hk (spB_iff.1 hs), (rounds_del h.1 hi h0 hk (spB_iff.1 hs)).trans h.2⟩
/-- ends stay, points get fewer -/
def below (m0 m : Arcs) : Prop := m.length = m0.length ∧ ∀ i, i < m.length → 2 ≤ (arc m i).length ∧ (arc m i).length ≤ (arc m0 i).length ∧ at_ (arc m i) 0 = at_ (arc m0 i) 0 ∧ at_ (arc m i) ((arc m i).length - 1) = at_ (arc m0 i) ((arc m0 i).length - 1)
theorem below_keep (m0 : Arcs) : keeps sp (below m0) := fun m i k h hi h0 hk _ => by
  refine ⟨(del_length m i k).trans h.1, fun j hj => ?_⟩
  rw [del_length] at hj
  have hb := h.2 j hj
  by_cases c : j = i
  · subst c
    have hl := len_del hi (k := k) (by omega)
    rw [hl]
    have p0 := pt_del (k := k) (t := 0) hi
    have p1 := pt_del (k := k) (t := (arc m j).length - 1 - 1) hi
    unfold pt old at p0 p1
    rw [if_pos h0] at p0
    rw [if_neg (by omega)] at p1
    refine ⟨by omega, by omega, p0.trans hb.2.2.1, p1.trans ?_⟩
    rw [← hb.2.2.2]
    congr 1
    omega
  · rw [arc_del_ne c]
    exact hb
theorem below_refl {m : Arcs} (h : ∀ i, i < m.length → 2 ≤ (arc m i).length) : below m m := ⟨rfl, fun i hi => ⟨h i hi, Nat.le_refl _, rfl, rfl⟩⟩
theorem thinned_rounds {most : Int} {m : Arcs} (R : Right m) : rounds (nof (thinned most m)) (thinned most m).length = rounds (nof m) m.length :=
  (aL_keep (rounds_keep most (rounds (nof m) m.length)) (all m + 1) m ⟨R, rfl⟩).2
theorem thinned_below {most : Int} {m : Arcs} (R : Right m) : below m (thinned most m) := aL_keep (below_keep m) (all m + 1) m (below_refl R.two)
end Shp
/-
  ShapeKeeps: the walk.
-/
namespace Go.Proofs.YtcfalmdfohphoaaDoor
open Go Go.Ab Mp
set_option maxRecDepth 100000
set_option maxHeartbeats 8000000 in
theorem shapeKeeps_any {E : Errs} (m : Shp.Arcs) (hl : m.length ≤ 5864062014634) (hlen : ∀ i, i < m.length → (Shp.arc m i).length ≤ 8796093022208) (most : Int) (hm1 : most ≤ 9223372036854775807) (K : AV → List AO → Prop) (hK : K (.fz .bool true) []) :
    ACall Tryd.prog (G8 E) 4 [.fptr MpT m, .fz int most] [] K := by
  have hl2 : m.length ≤ 1000000000000000 := by omega
  refine acall_mk (E := envCut (G8 E) 183 0 [19]) (envCutOk _ _ _ _) Tryd.func4 rfl rfl rfl rfl rfl ?_
  (repeat' (first | exact trivial | refine And.intro ?_ ?_ | (intro hb; try simp at hb) | omega | exact rfl | refine aRegion_auto (by decide +kernel) ?_ | refine ⟨_, _, REnt.drop ⟨rfl, rfl⟩, ?_⟩ | fail))
  refine acall_frame0 rfl (mapped_any E _ ?_)
  (repeat' (first | exact trivial | refine And.intro ?_ ?_ | (intro hb; try simp at hb) | omega | exact rfl | refine aRegion_auto (by decide +kernel) ?_ | refine ⟨_, _, REnt.drop ⟨rfl, rfl⟩, ?_⟩ | fail))
  refine acall_frame0 rfl (fewArcs_any _ m hl2 _ ?_)
  by_cases hf : fewA m
  case neg =>
    rw [decide_eq_false hf]
    (repeat' (first | exact trivial | refine And.intro ?_ ?_ | (intro hb; try simp at hb) | omega | exact rfl | refine aRegion_auto (by decide +kernel) ?_ | refine ⟨_, _, REnt.drop ⟨rfl, rfl⟩, ?_⟩ | fail))
    exact hK
  rw [decide_eq_true hf]
  (repeat' (first | exact trivial | refine And.intro ?_ ?_ | (intro hb; try simp at hb) | omega | exact rfl | refine aRegion_auto (by decide +kernel) ?_ | refine ⟨_, _, REnt.drop ⟨rfl, rfl⟩, ?_⟩ | fail))
  refine acall_frame0 rfl (mapError_any _ m hl2 hlen _ ?_)
  by_cases hc : Shp.vE ngB m = 0 ∧ 0 ≤ most
  case neg =>
    generalize Shp.vE ngB m = e at hc
    (repeat' (first | exact trivial | exact fun h => h | refine And.intro ?_ ?_ | (intro hb; try simp at hb) | omega | exact rfl | exact Nat.le_refl _ | (show _ + 1 ≤ 4294967296; omega) | (show _ + 1 ≤ 5864062014634; omega) | (dsimp only; omega) | (show (_ : Int) ≤ (_ : Int); omega) | (show _ < List.length _; simp only [List.length_set, List.length_append, List.length_take]; omega) | (show wantB _ _ = true; simp <;> omega) | (show (_ : Bool) = _; simp_all; done) | (exfalso; omega) | refine aRegion_auto (by decide +kernel) ?_ | refine ⟨_, _, REnt.drop ⟨rfl, rfl⟩, ?_⟩ | fail))
    exact hK
  obtain ⟨h0, hm0⟩ := hc
  have hR := Shp.right_of h0
  have hro := Shp.thinned_rounds (most := most) hR
  have hbe := Shp.thinned_below (most := most) hR
  have hag := Shp.thinned_again most m
  have hvo : Shp.vE ngB (Shp.thinned most m) = 0 := Shp.aL_keep (sp := Shp.spB most) (Shp.vE_keep ngB most) (Shp.all m + 1) m h0
  have hta := thin.thin_any E m most hl2 hlen
  obtain ⟨out, hout⟩ : ∃ out, Shp.thinned most m = out := ⟨_, rfl⟩
  rw [hout] at hro hbe hag hvo hta
  clear hout
  have hlo : out.length ≤ 60 := (Shp.vE_zero hvo).1.1
  have hlo2 : ∀ i, i < out.length → (Shp.arc out i).length ≤ 8796093022208 := fun i hi => by have := thin.arc_le hvo hi; omega
  have htb := thin.thin_any E out most (by omega) hlo2
  rw [hag] at htb
  have hfa := faces_any E m hl2 hlen
  have hfb := faces_any E out (by omega) hlo2
  rw [hro] at hfb
  have hwy := Shp.nof_way (m := m)
  have hrm := Shp.rounds_mem hwy
  have hrl := Shp.rounds_len (Shp.nof m) m.length
  obtain ⟨fs, hfs⟩ : ∃ fs, Shp.rounds (Shp.nof m) m.length = fs := ⟨_, rfl⟩
  rw [hfs] at hfa hfb hrm hrl
  clear hro hag hfs
  have hml : out.length = m.length := hbe.1
  have hsl := sameLists_any (G8 E) fs (by omega) (fun l hl => by have := (hrm l hl).2; omega)
  rw [h0]
  (repeat' (first | exact trivial | refine And.intro ?_ ?_ | (intro hb; try simp at hb) | omega | exact rfl | refine aRegion_auto (by decide +kernel) ?_ | refine ⟨_, _, REnt.drop ⟨rfl, rfl⟩, ?_⟩ | fail))
  refine acall_frame0 rfl (drawn_any _ m hl hlen _ ?_)
  (repeat' (first | exact trivial | refine And.intro ?_ ?_ | (intro hb; try simp at hb) | omega | exact rfl | refine aRegion_auto (by decide +kernel) ?_ | refine ⟨_, _, REnt.drop ⟨rfl, rfl⟩, ?_⟩ | fail))
  refine acall_frame0 rfl (hta _ (fun h => spareC h hm1) (fun _ _ => ?_) (fun _ h => absurd h (by omega)) (fun h => absurd h0 h))
  (repeat' (first | exact trivial | refine And.intro ?_ ?_ | (intro hb; try simp at hb) | omega | exact rfl | refine aRegion_auto (by decide +kernel) ?_ | refine ⟨_, _, REnt.drop ⟨rfl, rfl⟩, ?_⟩ | fail))
  refine acall_frame0 rfl (drawn_any _ m hl hlen _ ?_)
  (repeat' (first | exact trivial | refine And.intro ?_ ?_ | (intro hb; try simp at hb) | omega | exact rfl | refine aRegion_auto (by decide +kernel) ?_ | refine ⟨_, _, REnt.drop ⟨rfl, rfl⟩, ?_⟩ | fail))
  refine acall_frame0 rfl (hfa _ (fun _ => ?_) (fun h => absurd h0 h))
  (repeat' (first | exact trivial | exact fun h => h | refine And.intro ?_ ?_ | (intro hb; try simp at hb) | omega | exact rfl | exact Nat.le_refl _ | (show _ + 1 ≤ 4294967296; omega) | (show _ + 1 ≤ 5864062014634; omega) | (dsimp only; omega) | (show (_ : Int) ≤ (_ : Int); omega) | (show _ < List.length _; simp only [List.length_set, List.length_append, List.length_take]; omega) | (show wantB _ _ = true; simp <;> omega) | (show (_ : Bool) = _; simp_all; done) | (exfalso; omega) | refine aRegion_auto (by decide +kernel) ?_ | fail))
  refine acall_conv [.dat MpT] _ _ _ rfl ?_ (acall_frame0 rfl (hfb _ (fun _ => ?_) (fun h => absurd hvo h)))
  · (repeat' (first | exact trivial | refine And.intro ?_ ?_ | (show _ ≤ _; omega) | (show _ ≤ _; simp; done)))
  (repeat' (first | exact trivial | exact fun h => h | refine And.intro ?_ ?_ | (intro hb; try simp at hb) | omega | exact rfl | exact Nat.le_refl _ | (show _ + 1 ≤ 4294967296; omega) | (show _ + 1 ≤ 5864062014634; omega) | (dsimp only; omega) | (show (_ : Int) ≤ (_ : Int); omega) | (show _ < List.length _; simp only [List.length_set, List.length_append, List.length_take]; omega) | (show wantB _ _ = true; simp <;> omega) | (show (_ : Bool) = _; simp_all; done) | (exfalso; omega) | refine aRegion_auto (by decide +kernel) ?_ | fail))
  refine acall_frame0 rfl (hsl _ ?_)
  (repeat' (first | exact trivial | exact fun h => h | refine And.intro ?_ ?_ | (intro hb; try simp at hb) | omega | exact rfl | exact Nat.le_refl _ | (show _ + 1 ≤ 4294967296; omega) | (show _ + 1 ≤ 5864062014634; omega) | (dsimp only; omega) | (show (_ : Int) ≤ (_ : Int); omega) | (show _ < List.length _; simp only [List.length_set, List.length_append, List.length_take]; omega) | (show wantB _ _ = true; simp <;> omega) | (show (_ : Bool) = _; simp_all; done) | (exfalso; omega) | refine aRegion_auto (by decide +kernel) ?_ | fail))
  refine acall_conv [.dat MpT, .keep] _ _ _ rfl ?_ (acall_frame0 rfl (htb _ (fun h => spareC h hm1) (fun _ _ => ?_) (fun _ h => absurd h (by omega)) (fun h => absurd hvo h)))
  · (repeat' (first | exact trivial | refine And.intro ?_ ?_ | (show _ ≤ _; omega) | (show _ ≤ _; simp; done)))
  (repeat' (first | exact trivial | exact fun h => h | refine And.intro ?_ ?_ | (intro hb; try simp at hb) | omega | exact rfl | exact Nat.le_refl _ | (show _ + 1 ≤ 4294967296; omega) | (show _ + 1 ≤ 5864062014634; omega) | (dsimp only; omega) | (show (_ : Int) ≤ (_ : Int); omega) | (show _ < List.length _; simp only [List.length_set, List.length_append, List.length_take]; omega) | (show wantB _ _ = true; simp <;> omega) | (show (_ : Bool) = _; simp_all; done) | (exfalso; omega) | refine aRegion_auto (by decide +kernel) ?_ | fail))
  refine ⟨Nat, fun i => ⟨[(0, .fptr MpT m), (7, .ptr 0 0), (14, .ptr 1 0), (16, .fz int i)], [.box [.fz (.list (.list SpT)) out], .box [.fz (.list (.list SpT)) out]]⟩, fun i => i ≤ out.length, fun i => out.length - i, 0, Nat.zero_le _, Ent.sub rfl ?_, ?_⟩
  · (repeat' (first | exact trivial | exact rfl | refine And.intro ?_ ?_))
  intro i hi
  have hi : i ≤ out.length := hi
  show awp _ _ _ ⟨[(0, .fptr MpT m), (7, .ptr 0 0), (14, .ptr 1 0), (16, .fz int i)], [.box [.fz (.list (.list SpT)) out], .box [.fz (.list (.list SpT)) out]]⟩
  by_cases hil : i < out.length
  · obtain ⟨g1, g2, g3, g4⟩ := hbe.2 i hil
    have hbl := thin.arc_le hvo hil
    have hcl := hlen i (by omega)
    obtain ⟨b, hbd⟩ : ∃ b, Shp.arc out i = b := ⟨_, rfl⟩
    obtain ⟨c, hcd⟩ : ∃ c, Shp.arc m i = c := ⟨_, rfl⟩
    have hgb : List.getD out (Int.toNat (i : Int)) SpT.list.dft = b := hbd
    have hgc : List.getD m (Int.toNat (i : Int)) SpT.list.dft = c := hcd
    have l1 : (out[i]?.getD SpT.list.dft) = b := by rw [← hgb, Int.toNat_natCast, List.getD_eq_getElem?_getD]
    have l2 : (m[i]?.getD SpT.list.dft) = c := by rw [← hgc, Int.toNat_natCast, List.getD_eq_getElem?_getD]
    rw [hbd] at g1 g2 g3 g4 hbl
    rw [hcd] at g2 g3 g4 hcl
    (repeat' (first | exact trivial | exact fun h => h | refine And.intro ?_ ?_ | (intro hb; try simp at hb) | omega | exact rfl | exact Nat.le_refl _ | (show _ + 1 ≤ 4294967296; omega) | (show _ + 1 ≤ 5864062014634; omega) | (dsimp only; omega) | (show (_ : Int) ≤ (_ : Int); omega) | (show _ < List.length _; simp only [List.length_set, List.length_append, List.length_take]; omega) | (show wantB _ _ = true; simp <;> omega) | (show (_ : Bool) = _; simp_all; done) | (exfalso; omega) | refine aRegion_auto (by decide +kernel) ?_ | fail))
    refine ⟨[(0, .fptr MpT m), (7, .ptr 0 0), (14, .ptr 1 0), (16, .fz int i), (17, .fz int b.length), (18, .fz int c.length)], [.box [.fz (.list (.list SpT)) out], .box [.fz (.list (.list SpT)) out]], Ent.sub rfl ?_, ?_⟩
    · (repeat' (first | exact trivial | exact rfl | refine And.intro ?_ ?_))
      · exact congrArg (fun l : List (Int × Int) => AV.fz int (l.length : Int)) hgb
      · exact congrArg (fun l : List (Int × Int) => AV.fz int (l.length : Int)) hgc
    have m1 : (List.getD out (Int.toNat (i : Int)) SpT.list.dft).length = b.length := by rw [hgb]
    have m2 : (List.getD m (Int.toNat (i : Int)) SpT.list.dft).length = c.length := by rw [hgc]
    have q1 : (b[0]?.getD SpT.dft) = (c[0]?.getD SpT.dft) := by
      have := g3
      unfold Shp.at_ at this
      rw [List.getD_eq_getElem?_getD, List.getD_eq_getElem?_getD] at this
      exact this
    have q2 : (b[b.length - 1]?.getD SpT.dft) = (c[c.length - 1]?.getD SpT.dft) := by
      have := g4
      unfold Shp.at_ at this
      rw [List.getD_eq_getElem?_getD, List.getD_eq_getElem?_getD] at this
      exact this
    (repeat' (first | exact trivial | exact fun h => h | refine And.intro ?_ ?_ | (intro hb; try simp at hb) | omega | exact rfl | exact Nat.le_refl _ | (show _ + 1 ≤ 4294967296; omega) | (show _ + 1 ≤ 5864062014634; omega) | (dsimp only; omega) | (show (_ : Int) ≤ (_ : Int); omega) | (show _ < List.length _; simp only [List.length_set, List.length_append, List.length_take]; omega) | (show wantB _ _ = true; simp <;> omega) | (show (_ : Bool) = _; simp_all; done) | (exfalso; omega) | refine aRegion_auto (by decide +kernel) ?_ | fail))
    · exfalso
      rw [l1, l2, q1, q2, eqS, eqS, decide_eq_true rfl, decide_eq_true rfl] at hb
      rcases hb with (((hb | hb) | hb) | hb) | hb
      · omega
      · omega
      · exact hb rfl
      · cases hb
      · cases hb
    · refine ⟨i + 1, by show i + 1 ≤ out.length; omega, by show out.length - (i + 1) < out.length - i; omega, Ent.sub rfl ?_⟩
      · (repeat' (first | exact trivial | exact rfl | refine And.intro ?_ ?_))
  · obtain rfl : i = out.length := by omega
    (repeat' (first | exact trivial | exact fun h => h | refine And.intro ?_ ?_ | (intro hb; try simp at hb) | omega | exact rfl | exact Nat.le_refl _ | (show _ + 1 ≤ 4294967296; omega) | (show _ + 1 ≤ 5864062014634; omega) | (dsimp only; omega) | (show (_ : Int) ≤ (_ : Int); omega) | (show _ < List.length _; simp only [List.length_set, List.length_append, List.length_take]; omega) | (show wantB _ _ = true; simp <;> omega) | (show (_ : Bool) = _; simp_all; done) | (exfalso; omega) | refine aRegion_auto (by decide +kernel) ?_ | refine ⟨_, _, REnt.drop ⟨rfl, rfl⟩, ?_⟩ | fail))
    exact hK
end Go.Proofs.YtcfalmdfohphoaaDoor
/-
  ShapeKeeps at nil.
-/
namespace Go.Proofs.YtcfalmdfohphoaaDoor
open Go Go.Ab
set_option maxRecDepth 100000
theorem shapeKeeps_nil {E : Errs} (most : Int) (K : AV → List AO → Prop) (hK : K (.fz .bool true) []) :
    ACall Tryd.prog (G8 E) 4 [.fz .raw (.pointer none), .fz int most] [] K := by
  refine acall_mk (E := envAt (G8 E) 183 0) (envOk _ _ _) Tryd.func4 rfl rfl rfl rfl rfl ?_
  (repeat' (first | exact trivial | exact fun h => h | refine And.intro ?_ ?_ | (intro hb; try simp at hb) | omega | exact rfl | exact Nat.le_refl _ | (show _ + 1 ≤ 4294967296; omega) | (show _ + 1 ≤ 5864062014634; omega) | (dsimp only; omega) | (show (_ : Int) ≤ (_ : Int); omega) | (show _ < List.length _; simp only [List.length_set, List.length_append, List.length_take]; omega) | (show wantB _ _ = true; simp <;> omega) | (show (_ : Bool) = _; simp_all; done) | (exfalso; omega) | refine aRegion_auto (by decide +kernel) ?_ | refine ⟨_, _, REnt.drop ⟨rfl, rfl⟩, ?_⟩ | fail))
  refine acall_frame0 rfl (mapped_any E _ ?_)
  (repeat' (first | exact trivial | exact fun h => h | refine And.intro ?_ ?_ | (intro hb; try simp at hb) | omega | exact rfl | exact Nat.le_refl _ | (show _ + 1 ≤ 4294967296; omega) | (show _ + 1 ≤ 5864062014634; omega) | (dsimp only; omega) | (show (_ : Int) ≤ (_ : Int); omega) | (show _ < List.length _; simp only [List.length_set, List.length_append, List.length_take]; omega) | (show wantB _ _ = true; simp <;> omega) | (show (_ : Bool) = _; simp_all; done) | (exfalso; omega) | refine aRegion_auto (by decide +kernel) ?_ | refine ⟨_, _, REnt.drop ⟨rfl, rfl⟩, ?_⟩ | fail))
  refine acall_frame0 rfl (fewNil_any _ _ ?_)
  (repeat' (first | exact trivial | exact fun h => h | refine And.intro ?_ ?_ | (intro hb; try simp at hb) | omega | exact rfl | exact Nat.le_refl _ | (show _ + 1 ≤ 4294967296; omega) | (show _ + 1 ≤ 5864062014634; omega) | (dsimp only; omega) | (show (_ : Int) ≤ (_ : Int); omega) | (show _ < List.length _; simp only [List.length_set, List.length_append, List.length_take]; omega) | (show wantB _ _ = true; simp <;> omega) | (show (_ : Bool) = _; simp_all; done) | (exfalso; omega) | refine aRegion_auto (by decide +kernel) ?_ | refine ⟨_, _, REnt.drop ⟨rfl, rfl⟩, ?_⟩ | fail))
  exact hK
end Go.Proofs.YtcfalmdfohphoaaDoor
/-
  Arguments read again behind a call that leaves old memory alone; a slice of points opened.
-/
namespace Go.Proofs.YtcfalmdfohphoaaDoor
open Go Go.ChangeShapes Go.WideShapes Go.ChangeAt Go.RowKit
theorem trodAll_below {H : Type} {enc : TypeId × Value → H} {P : Program} (hl : laidOutB P = true) {W W' : World} (hb : Below W.heap.size W W') :
    ∀ (ts : List TypeId) (vs : List Value) (ds : List (DataW H)) (ps : List MemPlace), (∀ t ∈ ts, P.readableRec t = true ∧ t < P.types.size) →
      DataW.TrodAll enc P W 0 (fun _ => true) true ts vs ds ps → (∀ x ∈ ps, x.block < W.heap.size) →
      DataW.TrodAll enc P W' 0 (fun b => decide (b < W.heap.size)) true ts vs ds ps
  | [], [], [], ps, _, h, _ => h
  | [], [], _ :: _, _, _, h, _ => h.elim
  | [], _ :: _, _, _, _, h, _ => h.elim
  | _ :: _, [], _, _, _, h, _ => h.elim
  | _ :: _, _ :: _, [], _, _, h, _ => h.elim
  | t :: ts, v :: vs, d :: ds, ps, hr, h, hlt => by
    obtain ⟨p, q, h1, h2, rfl⟩ := h
    refine ⟨p, q, Below.trod hl (hr t (List.mem_cons_self ..)).1 (hr t (List.mem_cons_self ..)).2 h1 hb (fun x hx => hlt x (List.mem_append.2 (.inl hx))), ?_, rfl⟩
    exact trodAll_below hl hb ts vs ds q (fun t ht => hr t (List.mem_cons_of_mem _ ht)) h2 (fun x hx => hlt x (List.mem_append.2 (.inr hx)))
end Go.Proofs.YtcfalmdfohphoaaDoor
/-
  ShapeKeeps answers true, whatever it is asked (no condition).
-/
namespace Go.Proofs.YtcfalmdfohphoaaDoor.shapeKeeps
open Go Go.ChangeShapes Go.WideShapes Go.ChangeAt Go.RowKit Go.Ab
set_option maxRecDepth 100000
theorem own : ownKnob Tryd.prog.godebug = none := by kernel_rfl
theorem laidOut : laidOutB Tryd.prog = true := by kernel_rfl
theorem star : "*" ++ "errors.errorString" = "*errors.errorString" := by decide
theorem names_at (u : TypeId) (h : Tryd.prog.typeName? 3 u = some "*errors.errorString") : u = 156 :=
  typeName_ptr_named (nm := "errors.errorString") (by rw [star]; kernel_rfl) (by kernel_rfl) (by decide) u (by rw [star]; exact h)
theorem cells_es : Tryd.prog.cellsOf 177 = 1 := by kernel_rfl
theorem cells_str : Tryd.prog.cellsOf 9 = 1 := by kernel_rfl
theorem globs {W : World} (h : laidMetH Tryd.prog Rows.shapeKeepsRow.laid W) : ∃ E : Errs, ∀ g v, gk (G8 E) g = some v → Glo0 W g v := by
  have h' : laidMet Tryd.prog Rows.shapeKeepsRow.laid W := h
  obtain ⟨ps, hv, hn, hall⟩ := h'
  obtain ⟨al, h1, h2, h3, _⟩ := laid_errs names_at Tryd.underlying156 Tryd.underlying177 rfl rfl Tryd.underlying9 cells_es cells_str
    [("mercator/api.ErrBound", _), ("mercator/api.ErrShape", _), ("mercator/api.ErrOrder", _)] [1, 0, 2] ps hv hn hall (by kernel_rfl)
    (fun g hg => ⟨28, _, by
      have : ([1, 0, 2].all fun g => (Tryd.prog.globals[g]?).map (·.type) == some 28) = true := by kernel_rfl
      simpa using List.all_eq_true.1 this g hg, Tryd.underlying28⟩)
  obtain ⟨a0, a1, a2, rfl⟩ : ∃ a0 a1 a2, al = [a0, a1, a2] := by
    match al, h1 with
    | [a0, a1, a2], _ => exact ⟨a0, a1, a2, rfl⟩
  refine ⟨⟨a0, a0, a1, a0, a0, a0, a2, a0⟩, fun g v hg => ?_⟩
  unfold G8 gk at hg
  split at hg
  · rename_i e; subst e; cases hg; exact h3 1 _ _ rfl rfl
  unfold gk at hg
  split at hg
  · rename_i e; subst e; cases hg; exact h3 0 _ _ rfl rfl
  unfold gk at hg
  split at hg
  · rename_i e; subst e; cases hg; exact h3 2 _ _ rfl rfl
  · cases hg
theorem lifted (os : Os) (started : os.Started) (H : Type) (enc : TypeId × Value → H) :
    ReturnsInHanded {} Tryd.checked os 4 .any (fun w args => (Rows.shapeKeepsSpec.pre enc Tryd.prog Tryd.f4 [] false w args ∧ laidMetH Tryd.prog Rows.shapeKeepsRow.laid w) ∧ sizedMet enc Tryd.prog Tryd.f4 (OpenSpec.ofChange Rows.shapeKeepsSpec) false w args)
      (Rows.shapeKeepsSpec.post enc Tryd.prog Tryd.f4 false true false false) := by
  refine returnsInHanded_of_change_and (C := Tryd.checked) (X := fun w _ => laidMetH Tryd.prog Rows.shapeKeepsRow.laid w) (fun _ _ _ hh h => h.of_heap hh) own started (by kernel_rfl) Tryd.func4
    (ChangeSpec.witness_shaped (enc := enc) (C := Tryd.checked) (os := os) (X := fun w _ => laidMetH Tryd.prog Rows.shapeKeepsRow.laid w) false (World.doorLaid Tryd.prog 400 os) #[.pointer none, .int .i64 0] 8 rfl (World.shaped_of_RefB (by kernel_rfl) (by kernel_rfl)) (by kernel_rfl) (by kernel_rfl) (by kernel_rfl)
      (laidMetH_of_parts3 (fuel := 8) (laidMet_of_run' 8 (by kernel_rfl) (by kernel_rfl)) (by kernel_rfl) (by kernel_rfl))) ?_
  intro W base args ds gs before hval0 hW _ hsz0 hL _
  have hval : ∀ (j : Nat) t v, Tryd.f4.params[j]? = some t → args[j]? = some v → Value.okWide Tryd.prog W .any base t v := hval0
  have hW' := hW
  obtain ⟨p, q, hA0, hV, rfl, hfz, hnd⟩ := hW
  have hA : DataW.TrodAll enc Tryd.prog W 0 (fun _ => true) true Tryd.f4.params.toList args.toList ds p := hA0
  obtain ⟨rfl, rfl⟩ := trodVars_none hV
  simp only [List.append_nil] at hW'
  have hAll : ∀ W', Below W.heap.size W W' → DataW.TrodAll enc Tryd.prog W' 0 (fun b => decide (b < W.heap.size)) true Tryd.f4.params.toList args.toList ds p :=
    fun W' hb => trodAll_below laidOut hb _ _ _ _ (by rw [Tryd.params4]; exact of_decide_eq_true (by kernel_rfl)) hA (fun x hx => hW'.lt x hx)
  have hsz := hsz0
  clear hsz0
  rw [Tryd.params4] at hA hval
  obtain ⟨v0, vs0, d0, ds0, p0, q0, hargs, rfl, rfl, h0, t0⟩ := trodAll_cons hA
  obtain ⟨v1, vs1, d1, ds1, p1, q1, rfl, rfl, rfl, h1, t1⟩ := trodAll_cons t0
  obtain ⟨rfl, rfl, rfl⟩ := trodAll_nil t1
  obtain rfl : args = #[v0, v1] := by cases args; simp_all
  clear hA0 hval0
  obtain ⟨E, hE⟩ := globs hL
  have hsz : (DataW.weightsEach Tryd.prog ([22, 3] ++ Rows.shapeKeepsSpec.plain.varTypes Tryd.prog) ([d0, d1] ++ [])).all (· ≤ reachBytes) = true := by have h := hsz; rw [show Tryd.checked.prog = Tryd.prog from rfl, Tryd.params4] at h; exact h
  obtain ⟨hw0, hsz⟩ := weights_first hsz
  obtain ⟨hw1, hsz⟩ := weights_first hsz
  have o0 := open_ptrW (n := 6) (ty := MpT) tabOk (show tptrTo tab 22 = some 40 by kernel_rfl) (by kernel_rfl) (G8 E) (hval 0 _ v0 rfl rfl) h0 hw0
  obtain ⟨y1, r1, b1⟩ := open_val (n := 1) (ty := int) tabOk (by kernel_rfl) (G8 E) (hval 1 _ v1 rfl rfl) h1
  have fin : Calls Tryd.prog 4 #[v0, v1] W fun e w' => e = .returned (.bool true) ∧ Below W.heap.size W w' := by
    rcases o0 with rfl | ⟨y0, r0, b0, w0⟩
    · exact acall_true (vs := [.pointer none, v1]) (shapeKeeps_nil y1 _ rfl) hE ⟨_, _, rfl, (rel_raw rfl).2 rfl, ⟨_, _, rfl, r1, rfl⟩⟩
    · have w1 := w0 _ Tryd.underlying40 _ Tryd.underlying31
      rw [show Tryd.prog.bytesOf 44 = 24 by kernel_rfl] at w1
      have hl : y0.length ≤ 5864062014634 := by
        have : List.length y0 * 24 ≤ reachBytes := w1.1
        unfold reachBytes at this; omega
      have hlen : ∀ i, i < y0.length → (Shp.arc y0 i).length ≤ 8796093022208 := fun i hi => by
        have h2 := (w1.2 i hi _ Tryd.underlying44).1
        rw [show Tryd.prog.bytesOf 46 = 16 by kernel_rfl] at h2
        have h3 : Shp.arc y0 i = y0[i] := by unfold Shp.arc; rw [List.getD_eq_getElem?_getD, List.getElem?_eq_getElem hi]; rfl
        rw [h3]
        have : List.length y0[i] * 16 ≤ reachBytes := h2
        unfold reachBytes at this; omega
      have hm1 : y1 ≤ 9223372036854775807 := b1.2
      exact acall_true (vs := [v0, v1]) (shapeKeeps_any y0 hl hlen y1 hm1 _ rfl) hE ⟨_, _, rfl, r0, ⟨_, _, rfl, r1, rfl⟩⟩
  refine fin.mono fun e W' ⟨he, hg⟩ => ?_
  subst he
  exact ⟨_, rfl, _, _, _, [], _, [], hW', trodAll_mk1 (shut_bool Tryd.underlying4 _), hAll W' hg, rfl, hg.frame _, fun h => by cases h⟩
theorem row : Rows.ShapeKeepsSaid :=
  OpenClaim.holds_of_wide 4 Tryd.f4 rfl rfl rfl rfl rfl rfl rfl ⟨rfl, rfl, rfl, rfl, rfl⟩ rfl rfl rfl rfl rfl (by kernel_rfl) Tryd.func4 (by kernel_rfl)
    (of_decide_eq_true (by kernel_rfl)) (by unfold Func.isWrapper; first | (rw [if_pos (by decide +kernel)]; kernel_rfl) | (rw [if_neg (by decide +kernel)]; exact ⟨rfl, rfl⟩))
    (fun os started H enc _ => lifted os started H enc)
theorem proved : Rows.ShapeKeepsCardSaid :=
  Claim7.holds_tied_plain_at .later [] [.sentinel, .sentinel, .sentinel] true (true, "23caa00f1aea8a9207bdee5ce69086419719e306f5c717a9aa8809e8ab7f96e5") true
    row (fun _ h => by cases h) (by kernel_rfl) (fun _ h => by cases h) shapeKeeps_row_tie rfl ⟨rfl, rfl⟩ (by kernel_rfl) rfl
    (fun f fn hf hfn => by
      obtain rfl : f = 4 := Option.some.inj ((show Tryd.prog.funcNamed "mercator/mercatorlaw5.ShapeKeeps" = some 4 by kernel_rfl).symm.trans hf) |>.symm
      obtain rfl : fn = Tryd.f4 := (Option.some.inj (Tryd.func4.symm.trans hfn)).symm
      exact ⟨by kernel_rfl, fun j t ht => by
        rw [Tryd.params4] at ht
        have hm : t ∈ [22, 3] := by simpa using Array.mem_of_getElem? ht
        have hall : ([22, 3].all fun u => !Tryd.prog.wantsStandIn u) = true := by kernel_rfl
        exact (show Tryd.prog.wantsStandIn t = false by simpa using List.all_eq_true.1 hall t hm)⟩)
    (by kernel_rfl)
end Go.Proofs.YtcfalmdfohphoaaDoor.shapeKeeps
