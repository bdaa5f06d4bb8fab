/-
  ShapeTurned answers true for every ring, point, start and shift: areas under turning around and moving (no condition).
-/
import Derived.Test.YtdbgkhcknaafoaaDoorTie
import Derived.Test.YtdbgkhcknaafoaaDoorCards
import Derived.Test.YtdbgkhcknaafoaaDoorS6
import Derived.Test.YtdbgkhcknaafoaaDoorS7
import Derived.Test.YtdbgkhcknaafoaaDoorLaw
import Derived.SevenTiedAt
import Derived.LaidMore
import Derived.Lay
import Derived.Deep.Slices
import Derived.Lib.SmallJoins
import Derived.Stop.Joined
namespace Go.Proofs.YtdbgkhcknaafoaaDoor.turned
open Go Go.ChangeShapes Go.WideShapes Go.ChangeAt Go.RowKit Shp
set_option maxRecDepth 100000
theorem own : ownKnob Tryd.prog.godebug = none := by kernel_rfl
theorem laidOut : laidOutB Tryd.prog = true := by kernel_rfl
theorem spotCells : Tryd.prog.cellsOf 24 = 2 := by kernel_rfl
theorem intCells : Tryd.prog.cellsOf 3 = 1 := by kernel_rfl
theorem cell_add {w : World} {a : Addr} {v : Value} {k : Nat} (hs : a.spot = none) (h : w.cell? (a.add k) = some v) : w.cell? ⟨a.block, a.off + k, none⟩ = some v := by
  obtain ⟨b, o, s⟩ := a
  subst hs
  unfold Addr.add at h
  split at h
  · rename_i h0; subst h0; exact h
  · exact h
theorem open_spots {H : Type} {enc : TypeId × Value → H} {w : World} {fuel : Nat} {cs : List Value} {x : DataW H × List MemPlace}
    (h : DataW.trod enc Tryd.prog w 0 (fun _ => true) true fuel 22 cs = some x) :
    ∃ pa len cap, cs = [.slice pa len cap] ∧ len ≤ maxLen ∧ ∃ l : List Sp, l.length = len ∧ (0 < len → ∃ g off, pa = some ⟨g, off, none⟩ ∧ At w g off l ∧ g < w.heap.size) := by
  rcases Deep.open_slice Tryd.underlying22 h with ⟨hc, _⟩ | ⟨a, len, cap, m, n, D, Pl, hc, _, hl, hm, hmm, _, hx⟩
  · exact ⟨none, 0, 0, hc, Nat.zero_le _, [], rfl, fun h => absurd h (Nat.lt_irrefl 0)⟩
  · rw [if_pos rfl] at hmm
    rw [spotCells] at hx
    have hp : ∀ i, i < len → ∃ p : Sp, w.cell? (a.add (i * 2)) = some (.int .i64 p.1) ∧ w.cell? ((a.add (i * 2)).add 1) = some (.int .i64 p.2) := by
      intro i hi
      obtain ⟨cs', h1, h2⟩ := hx i (by omega)
      obtain ⟨y0, y1, n', _, hlen, h3, h4⟩ := trod_struct2 Tryd.underlying24 h2
      rw [spotCells] at hlen
      obtain ⟨c0, c1, rfl⟩ : ∃ c0 c1, cs' = [c0, c1] := by
        match cs', hlen with
        | [c0, c1], _ => exact ⟨c0, c1, rfl⟩
      simp only [intCells] at h3 h4
      obtain ⟨n0, e0, _, _⟩ := DataW.trod_int Tryd.underlying3 h3
      obtain ⟨n1, e1, _, _⟩ := DataW.trod_int Tryd.underlying3 h4
      simp at e0 e1
      obtain ⟨_, _, hcell⟩ := World.cells?_some h1
      refine ⟨(n0, n1), ?_, ?_⟩
      · have := hcell 0 (by omega); simpa [Addr.add, e0] using this
      · have := hcell 1 (by omega); simpa [e1] using this
    obtain ⟨f, hf⟩ := Deep.choose_lt (α := Sp) hp
    refine ⟨some a, len, cap, hc, by omega, (List.range len).map f, by simp, fun h0 => ?_⟩
    have hs : a.spot = none := by
      have := World.cell?_spot (hf 0 h0).1
      simpa [Addr.add] using this
    refine ⟨a.block, a.off, ?_, ?_, ?_⟩
    · obtain ⟨b, o, s⟩ := a; simp at hs; subst hs; rfl
    · intro i hi
      simp at hi
      have e : at_ ((List.range len).map f) i = f i := by unfold at_; simp [hi]
      rw [e]
      obtain ⟨q1, q2⟩ := hf i hi
      rw [Deep.add_add] at q2
      exact ⟨cell_add hs q1, cell_add hs q2⟩
    · have := World.block_lt_of_cell? w _ (cell_add hs (hf 0 h0).1); exact this
theorem open_spot {H : Type} {enc : TypeId × Value → H} {w : World} {v : Value} {d : DataW H} {p : List MemPlace} (hv : Value.okWide Tryd.prog w .any 0 24 v)
    (h : DataW.Trod enc Tryd.prog w 0 (fun _ => true) true 24 v d p) : ∃ q : Sp, v = .agg #[.int .i64 q.1, .int .i64 q.2] := by
  obtain ⟨v0, v1, y0, y1, n, rfl, _, _, h0, h1⟩ := Joins.open_agg2 Tryd.underlying24 (by kernel_rfl) (by kernel_rfl) hv h
  obtain ⟨n0, e0, _, _⟩ := DataW.trod_int Tryd.underlying3 h0
  obtain ⟨n1, e1, _, _⟩ := DataW.trod_int Tryd.underlying3 h1
  simp at e0 e1
  exact ⟨(n0, n1), by rw [e0, e1]⟩
/-- the law, of whatever slice is read -/
theorem law (pa : Option Addr) (len cap : Nat) (l : List Sp) (hl : l.length = len) (hm : len ≤ maxLen) (p by_ : Sp) (k : Int) (W : World) (h : 0 < len → ∃ g off, pa = some ⟨g, off, none⟩ ∧ At W g off l ∧ g < W.heap.size) :
    Calls Tryd.prog 3 #[.slice pa len cap, .agg #[.int .i64 p.1, .int .i64 p.2], .int .i64 k, .agg #[.int .i64 by_.1, .int .i64 by_.2]] W fun e w' => e = .returned (.bool true) ∧ Below W.heap.size W w' := by
  subst hl
  have hw : l.length ≤ 9223372036854775807 := by unfold maxLen at hm; omega
  by_cases hs : l.length < 3 ∨ 4000 < l.length
  · exact turned_skip pa _ cap p by_ k l hw W (fun w1 _ => re_short l pa cap hs hw w1) (.inl fun hr => by have := hr.1; have := hr.2.1; omega)
  · obtain ⟨g, off, rfl, hc, hg⟩ := h (by omega)
    have hre : ∀ w1, Below W.heap.size W w1 → Calls Tryd.prog 7 #[.slice (some ⟨g, off, none⟩) l.length cap] w1 fun e w' => RetRing l e ∧ Below w1.heap.size w1 w' :=
      fun w1 hb => re_long g off cap l (by omega) (by omega) w1 (hc.below hb hg) (Nat.lt_of_lt_of_le hg hb.size)
    by_cases hr : Ring l
    · by_cases hk : 0 ≤ k ∧ k < l.length
      · by_cases h30 : l.length ≤ 30
        · obtain ⟨k', rfl⟩ := Int.eq_ofNat_of_zero_le hk.1
          exact turned_ring g off cap l hr h30 p by_ k' (by omega) W hc hg
        · exact turned_many (some ⟨g, off, none⟩) l.length cap p by_ k (by omega) (by have := hr.2.1; omega) W
      · exact turned_skip _ _ cap p by_ k l hw W hre (.inr (by omega))
    · exact turned_skip _ _ cap p by_ k l hw W hre (.inl hr)
theorem lifted (os : Os) (started : os.Started) (H : Type) (enc : TypeId × Value → H) :
    ReturnsInHanded {} Tryd.checked os 3 .any (fun w args => (Rows.shapeTurnedSpec.pre enc Tryd.prog Tryd.f3 [] false w args ∧ laidMetH Tryd.prog Rows.shapeTurnedRow.laid w) ∧ sizedMet enc Tryd.prog Tryd.f3 (OpenSpec.ofChange Rows.shapeTurnedSpec) false w args)
      (Rows.shapeTurnedSpec.post enc Tryd.prog Tryd.f3 false true false false) := by
  refine returnsInHanded_of_change_and (C := Tryd.checked) (X := fun w _ => laidMetH Tryd.prog Rows.shapeTurnedRow.laid w) (fun _ _ _ hh h => h.of_heap hh) own started (by kernel_rfl) Tryd.func3
    (ChangeSpec.witness_shaped (enc := enc) (C := Tryd.checked) (os := os) (X := fun w _ => laidMetH Tryd.prog Rows.shapeTurnedRow.laid w) false (World.doorLaid Tryd.prog 400 os) #[.slice none 0 0, .agg #[.int .i64 0, .int .i64 0], .int .i64 0, .agg #[.int .i64 0, .int .i64 0]] 8 rfl (World.shaped_of_RefB (by kernel_rfl) (by kernel_rfl)) (by kernel_rfl) (by kernel_rfl) (by kernel_rfl)
      (laidMetH_of_parts3 (fuel := 8) (laidMet_of_run' 8 (by kernel_rfl) (by kernel_rfl)) (by kernel_rfl) (by kernel_rfl))) ?_
  intro W base args ds gs before hval0 hW _ _ _ _
  have hval : ∀ (j : Nat) t v, Tryd.f3.params[j]? = some t → args[j]? = some v → Value.okWide Tryd.prog W .any base t v := hval0
  have hW' := hW
  obtain ⟨p, q, hA0, hV, rfl, hfz, hnd⟩ := hW
  have hA : DataW.TrodAll enc Tryd.prog W 0 (fun _ => true) true Tryd.f3.params.toList args.toList ds p := hA0
  obtain ⟨rfl, rfl⟩ := trodVars_none hV
  simp only [List.append_nil] at hW'
  have hAll : ∀ W', Below W.heap.size W W' → DataW.TrodAll enc Tryd.prog W' 0 (fun b => decide (b < W.heap.size)) true Tryd.f3.params.toList args.toList ds p :=
    fun W' hb => trodAll_below laidOut hb _ _ _ _ (by rw [Tryd.params3]; exact of_decide_eq_true (by kernel_rfl)) hA (fun x hx => hW'.lt x hx)
  rw [Tryd.params3] at hA hval
  obtain ⟨v0, vs0, d0, ds0, p0, q0, hargs, rfl, rfl, h0, r0⟩ := trodAll_cons hA
  obtain ⟨v1, vs1, d1, ds1, p1, q1, rfl, rfl, rfl, h1, r1⟩ := trodAll_cons r0
  obtain ⟨v2, vs2, d2, ds2, p2, q2, rfl, rfl, rfl, h2, r2⟩ := trodAll_cons r1
  obtain ⟨v3, vs3, d3, ds3, p3, q3, rfl, rfl, rfl, h3, r3⟩ := trodAll_cons r2
  obtain ⟨rfl, rfl, rfl⟩ := trodAll_nil r3
  obtain rfl : args = #[v0, v1, v2, v3] := by cases args; simp_all
  obtain ⟨pa, len, cap, rfl⟩ := okWide_slice Tryd.underlying22 (hval 0 _ v0 rfl rfl)
  obtain ⟨fuel, hf⟩ := h0
  obtain ⟨pa', len', cap', hcs, hm, l, hl, hat⟩ := open_spots hf
  simp [Value.cells] at hcs
  obtain ⟨rfl, rfl, rfl⟩ := hcs
  obtain ⟨p1', rfl⟩ := open_spot (hval 1 _ v1 rfl rfl) h1
  obtain ⟨k, rfl, rfl, rfl, _⟩ := open_int Tryd.underlying3 (hval 2 _ v2 rfl rfl) h2
  obtain ⟨p3', rfl⟩ := open_spot (hval 3 _ v3 rfl rfl) h3
  clear hA0 hval0
  refine (law pa len cap l hl hm p1' p3' k W hat).mono fun e W' ⟨he, hg⟩ => ?_
  subst he
  exact ⟨_, rfl, _, _, _, [], _, [], hW', trodAll_mk1 (shut_bool Tryd.underlying4 _), hAll W' hg, rfl, hg.frame _, fun h => by cases h⟩
theorem row : Rows.ShapeTurnedSaid :=
  OpenClaim.holds_of_wide 3 Tryd.f3 rfl rfl rfl rfl rfl rfl rfl ⟨rfl, rfl, rfl, rfl, rfl⟩ rfl rfl rfl rfl rfl (by kernel_rfl) Tryd.func3 (by kernel_rfl)
    (of_decide_eq_true (by kernel_rfl)) (by unfold Func.isWrapper; first | (rw [if_pos (by decide +kernel)]; kernel_rfl) | (rw [if_neg (by decide +kernel)]; exact ⟨rfl, rfl⟩))
    (fun os started H enc _ => lifted os started H enc)
theorem proved : Rows.ShapeTurnedCardSaid :=
  Claim7.holds_tied_plain_at .later [] [.sentinel, .sentinel] true (true, "ee7620bb3eaf53d34e3e1ac1b96749d01c7b7123d319f65c7d4b17ac3916c11a") true
    row (fun _ h => by cases h) (by kernel_rfl) (fun _ h => by cases h) shapeTurned_row_tie rfl ⟨rfl, rfl⟩ (by kernel_rfl) rfl
    (fun f fn hf hfn => by
      obtain rfl : f = 3 := Option.some.inj ((show Tryd.prog.funcNamed "mercator/mercatorlaw5.ShapeTurned" = some 3 by kernel_rfl).symm.trans hf) |>.symm
      obtain rfl : fn = Tryd.f3 := (Option.some.inj (Tryd.func3.symm.trans hfn)).symm
      exact ⟨by kernel_rfl, fun j t ht => by
        rw [Tryd.params3] at ht
        have hm : t ∈ [22, 24, 3, 24] := by simpa using Array.mem_of_getElem? ht
        have hall : ([22, 24, 3, 24].all fun u => !Tryd.prog.wantsStandIn u) = true := by kernel_rfl
        exact (show Tryd.prog.wantsStandIn t = false by simpa using List.all_eq_true.1 hall t hm)⟩)
    (by kernel_rfl)
end Go.Proofs.YtdbgkhcknaafoaaDoor.turned
