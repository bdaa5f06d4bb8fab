/-
  Places counted: is a place met more than once?
-/
import Derived.Test.YtcfalmdfohphoaaDoorM7
namespace Go.Proofs.YtcfalmdfohphoaaDoor
open Go Go.Ab Mp
set_option maxRecDepth 100000
/-- places whose coordinates are 64-bit numbers -/
def spG (p : Int × Int) : Prop := (-9223372036854775808 ≤ p.1 ∧ p.1 ≤ 9223372036854775807) ∧ (-9223372036854775808 ≤ p.2 ∧ p.2 ≤ 9223372036854775807)
theorem spG_of {p : Int × Int} (h : plB p = true) : spG p := by
  obtain ⟨⟨a, b⟩, c, d⟩ := plB_iff.1 h
  exact ⟨⟨by omega, by omega⟩, by omega, by omega⟩
theorem spG_ok (p : Int × Int) (h : spG p) : ∃ l, keyOf Tryd.prog 46 (kvS p) = some l := keyS_ok h.1 h.2
theorem kvS_in (p q : Int × Int) (h : kvS p = kvS q) : p = q := kvS_inj.1 h
theorem rel_kvS {x y : Int} : ∀ (c : Cx) v, Rel c (.agg [.fz (.int .i64) x, .fz (.int .i64) y]) v → v = kvS (x, y) := fun _ _ h => by
  unfold Rel at h
  obtain ⟨vs, rfl, h⟩ := h
  unfold RelL at h
  obtain ⟨a, r, rfl, h1, h⟩ := h
  unfold RelL at h
  obtain ⟨b, r, rfl, h2, h⟩ := h
  unfold RelL at h
  subst h
  rw [rel_int.1 h1, rel_int.1 h2]; rfl
theorem zero_int (c : Cx) : ∃ zv, (zeroValue 3).run Tryd.prog c.w = .ok zv c.w ∧ Rel c (.fz (.int .i64) (0 : Int)) zv := ⟨.int .i64 0, by kernel_rfl, rel_int.2 rfl⟩
abbrev CnS := List (Nat × (Int × Int) × Int)
abbrev cnO (bm clk : Nat) (S : CnS) : AO := mpK kvS (fun v : Int => .fz int v) bm clk S
theorem cn_same {bm clk : Nat} {S : CnS} (f : Nat → Nat) : mapO f (cnO bm clk S) = cnO bm clk S := mpK_same (t := int) (g := fun v => v) f
theorem cn_ok {bm clk n : Nat} {S : CnS} : okLB n (cnO bm clk S).vals = true := mpK_ok (t := int) (g := fun v => v)
theorem valid1_any (G : List (Nat × Value)) (p : Int × Int) (bm clk : Nat) (S : CnS) (hM : MO spG clk S) (hp : spG p) (K : AV → List AO → Prop) (hK : K (.fz .bool (decide (1 < gv S p 0))) [.box [.ptr 1 0], cnO bm clk S]) :
    ACall Tryd.prog G 38 [.fz SpT p, .ptr 0 0] [.box [.ptr 1 0], cnO bm clk S] K := by
  refine acall_mk (E := envAt G 8 2) (envOk _ _ _) Tryd.func38 rfl rfl rfl rfl rfl ?_
  refine aact_lookG p (d := (0 : Int)) (tok := 1) (off := 0) (bm := bm) (clk := clk) (S := S) ?_ ?_ hM Tryd.underlying68 keyedS kvS_in spG_ok rel_kvS hp zero_int ?_
  · rfl
  · rfl
  (repeat' (first | exact trivial | refine And.intro ?_ ?_ | (intro hb; try simp at hb) | omega | exact rfl | refine aRegion_auto (by decide +kernel) ?_ | fail))
  refine ⟨.fz .bool (decide (1 < gv S p 0)), [.box [.ptr 1 0], cnO bm clk S], REnt.ren [0, 1] rfl ?_ ⟨rfl, rfl⟩, hK⟩
  (repeat' (first | exact trivial | exact rfl | refine And.intro ?_ ?_))
  · exact congrArg some (cn_same _).symm
  · exact cn_ok (bm := bm) (clk := clk)
theorem indexFuncV_any (G : List (Nat × Value)) (xs : List (Int × Int)) (bm clk : Nat) (S : CnS) (hM : MO spG clk S) (hp : ∀ p ∈ xs, spG p) (hl : xs.length ≤ 1000000000000) (K : AV → List AO → Prop) (hK : K (.fz int (idxS (fun p => decide (1 < gv S p 0)) xs)) [.box [.ptr 1 0], cnO bm clk S]) :
    ACall Tryd.prog G 55 [.fz (.list SpT) xs, .fn 38 [.ptr 0 0]] [.box [.ptr 1 0], cnO bm clk S] K := by
  let fn : AV := .fn 38 [.ptr 0 0]
  obtain ⟨f, hf⟩ : ∃ f : Int × Int → Bool, f = fun p => decide (1 < gv S p 0) := ⟨_, rfl⟩
  rw [← hf] at hK
  refine acall_mk (E := envAt G 19 2) (envOk _ _ _) Tryd.func55 rfl rfl rfl rfl rfl ?_
  (repeat' (first | exact trivial | refine And.intro ?_ ?_ | (intro hb; try simp at hb) | omega | exact rfl | refine aRegion_auto (by decide +kernel) ?_ | fail))
  refine ⟨Nat, fun k => ⟨[(0, .fz (.list SpT) xs), (1, fn), (7, .fz int xs.length), (8, .fz int k)], [.box [.ptr 1 0], cnO bm clk S]⟩, fun k => k ≤ xs.length ∧ ∀ j, j < k → f (Shp.at_ xs j) = false, fun k => xs.length - k, 0, ⟨Nat.zero_le _, fun j h => absurd h (Nat.not_lt_zero _)⟩, Ent.sub rfl ?_, ?_⟩
  · (repeat' (first | exact trivial | exact rfl | refine And.intro ?_ ?_))
  intro k ⟨hk, hq⟩
  have hk : k ≤ xs.length := hk
  have hq : ∀ j, j < k → f (Shp.at_ xs j) = false := hq
  show awp _ _ _ ⟨[(0, .fz (.list SpT) xs), (1, fn), (7, .fz int xs.length), (8, .fz int k)], [.box [.ptr 1 0], cnO bm clk S]⟩
  by_cases hkl : k < xs.length
  · obtain ⟨a, ha⟩ : ∃ a, Shp.at_ xs k = a := ⟨_, rfl⟩
    have hg : List.getD xs (Int.toNat (k : Int)) SpT.dft = a := ha
    have hx : a = xs[k] := by rw [← ha]; unfold Shp.at_; rw [List.getD_eq_getElem?_getD, List.getElem?_eq_getElem hkl]; rfl
    (repeat' (first | exact trivial | refine And.intro ?_ ?_ | (intro hb; try simp at hb) | omega | exact rfl | refine aRegion_auto (by decide +kernel) ?_ | fail))
    rw [hg]
    refine valid1_any _ a bm clk S hM (hp a (by rw [hx]; exact List.getElem_mem _)) _ ?_
    rw [show decide (1 < gv S a 0) = f a by rw [hf]]
    cases hfa : f a with
    | true =>
      have e : idxS f xs = k := by
        unfold idxS
        have : xs.findIdx? f = some k := by
          rw [List.findIdx?_eq_some_iff_getElem]
          refine ⟨hkl, by rw [← hx]; exact hfa, fun j hj => ?_⟩
          have := hq j hj
          unfold Shp.at_ at this
          rw [List.getD_eq_getElem?_getD, List.getElem?_eq_getElem (by omega)] at this
          exact Bool.not_eq_true _ ▸ this
        rw [this]
      rw [e] at hK
      (repeat' (first | exact trivial | refine And.intro ?_ ?_ | (intro hb; try simp at hb) | omega | exact rfl | refine aRegion_auto (by decide +kernel) ?_ | fail))
      refine ⟨_, _, REnt.refl _ _ _, hK⟩
    | false =>
      (repeat' (first | exact trivial | refine And.intro ?_ ?_ | (intro hb; try simp at hb) | omega | exact rfl | refine aRegion_auto (by decide +kernel) ?_ | fail))
      refine ⟨k + 1, ⟨by show k + 1 ≤ xs.length; omega, fun j hj => ?_⟩, by show xs.length - (k + 1) < xs.length - k; omega, Ent.sub rfl ?_⟩
      · by_cases c : j = k
        · rw [c, ha]; exact hfa
        · have hj : j < k + 1 := hj
          exact hq j (by omega)
      · (repeat' (first | exact trivial | exact rfl | refine And.intro ?_ ?_))
  · have e : idxS f xs = -1 := by
      unfold idxS
      have : xs.findIdx? f = none := by
        rw [List.findIdx?_eq_none_iff]
        intro x hx
        obtain ⟨j, hj, rfl⟩ := List.getElem_of_mem hx
        have := hq j (by omega)
        unfold Shp.at_ at this
        rw [List.getD_eq_getElem?_getD, List.getElem?_eq_getElem hj] at this
        exact this
      rw [this]
    rw [e] at hK
    (repeat' (first | exact trivial | refine And.intro ?_ ?_ | (intro hb; try simp at hb) | omega | exact rfl | refine aRegion_auto (by decide +kernel) ?_ | fail))
    refine ⟨_, _, REnt.refl _ _ _, hK⟩
theorem containsFuncV_any (G : List (Nat × Value)) (xs : List (Int × Int)) (bm clk : Nat) (S : CnS) (hM : MO spG clk S) (hp : ∀ p ∈ xs, spG p) (hl : xs.length ≤ 1000000000000) (K : AV → List AO → Prop) (hK : K (.fz .bool (xs.any fun p => decide (1 < gv S p 0))) [.box [.ptr 1 0], cnO bm clk S]) :
    ACall Tryd.prog G 35 [.fz (.list SpT) xs, .fn 38 [.ptr 0 0]] [.box [.ptr 1 0], cnO bm clk S] K := by
  refine acall_mk (E := envAt G 9 2) (envOk _ _ _) Tryd.func35 rfl rfl rfl rfl rfl ?_
  (repeat' (first | exact trivial | refine And.intro ?_ ?_ | (intro hb; try simp at hb) | omega | exact rfl | refine aRegion_auto (by decide +kernel) ?_ | fail))
  refine indexFuncV_any G xs bm clk S hM hp hl _ ?_
  (repeat' (first | exact trivial | refine And.intro ?_ ?_ | (intro hb; try simp at hb) | omega | exact rfl | refine aRegion_auto (by decide +kernel) ?_ | fail))
  refine ⟨_, _, REnt.refl _ _ _, ?_⟩
  refine kbl hK ?_
  generalize (fun p => decide (1 < gv S p 0)) = f
  symm
  show decide ((0 : Int) ≤ idxS f xs) = xs.any f
  unfold idxS
  cases h : xs.findIdx? f with
  | none =>
    rw [List.findIdx?_eq_none_iff] at h
    have hn : xs.any f = false := List.any_eq_false.2 fun x hx => by simpa using h x hx
    rw [hn]; rfl
  | some i =>
    obtain ⟨h1, h2, _⟩ := List.findIdx?_eq_some_iff_getElem.1 h
    have hn : xs.any f = true := List.any_eq_true.2 ⟨_, List.getElem_mem h1, h2⟩
    rw [hn]; exact decide_eq_true (show (0 : Int) ≤ ((i : Nat) : Int) by omega)
theorem containsV_lend (G : List (Nat × Value)) (m : List (List (Int × Int))) (xs : List (Int × Int)) (bm clk : Nat) (S : CnS) (hM : MO spG clk S) (hp : ∀ p ∈ xs, spG p) (hl : xs.length ≤ 1000000000000) (K : AV → List AO → Prop)
    (hK : K (.fz .bool (xs.any fun p => decide (1 < gv S p 0))) [.box [.fz (.list (.list SpT)) m], cnO bm clk S, .box [.ptr 1 0]]) :
    ACall Tryd.prog G 35 [.fz (.list SpT) xs, .fn 38 [.ptr 2 0]] [.box [.fz (.list (.list SpT)) m], cnO bm clk S, .box [.ptr 1 0]] K := by
  refine acall_frame [2, 1] [.box [.ptr 1 0], cnO bm clk S] [.fz (.list SpT) xs, .fn 38 [.ptr 0 0]] rfl ⟨⟨rfl, rfl⟩, ⟨congrArg some (cn_same _).symm, cn_ok (bm := bm) (clk := clk)⟩, trivial⟩ ⟨rfl, ?_⟩ rfl (containsFuncV_any G xs bm clk S hM hp hl _ ?_)
  · simp only [List.all_cons, List.all_nil, Bool.and_true]
    show (true && okLB 2 (cnO bm clk S).vals) = true
    rw [cn_ok (bm := bm) (clk := clk)]; rfl
  · show K (.fz .bool (xs.any fun p => decide (1 < gv S p 0))) [.box [.fz (.list (.list SpT)) m], mapO _ (cnO bm clk S), .box [.ptr 1 0]]
    rw [cn_same]
    exact hK
end Go.Proofs.YtcfalmdfohphoaaDoor
/-
  States whose memory ends in a list that is not written out, on: boxes there (made, written, read), told by equations.
-/
namespace Go.Ab
open Go
section
variable {P : Program} {D : Tab} {G : List (Nat × Value)} {N : Nat} {L : List Oper} {o : Oper} {os : List Oper} {T : List (Nat × AV)} {A : List AO} {Q : List (Nat × AV) → List AO → Prop}
theorem aOps_pureE {d : Nat} {v : AV} (hd : o.dst = some d) (hN : Nat.blt d N = true) (hg : o.guard = none) (hk : aKind D A T o.op = .pure) (hp : apure D G A T o.op = (none, v)) (h : aOps P D G N L os ((d, v) :: T) A Q) (hna : isAddO o = false := by rfl) : aOps P D G N L (o :: os) T A Q := by
  unfold aOps
  rw [hd]
  simp only [hN]
  rw [sgRun_ag hna]
  unfold agRun
  rw [hg]
  simp only
  unfold aRun
  rw [hk]
  simp only
  rw [hp]
  unfold runP
  simp only
  rw [forceV_eq]
  exact h
theorem aOps_effN {e : ER} (hd : o.dst = none) (hg : o.guard = none) (hk : aKind D A T o.op = .eff e) (h : runE e fun _ A' => aOps P D G N L os T A' Q) : aOps P D G N L (o :: os) T A Q := by
  unfold aOps
  rw [hd]
  simp only []
  rw [sgRun_ag (isAdd_not (D := D) (A := A) (T := T) (by rw [hk]; exact fun h => by cases h))]
  unfold agRun
  rw [hg]
  simp only
  unfold aRun
  rw [hk]
  exact h
theorem aAlloc_eq {t : TypeId} {z : List AV} (hz : tzero D t = some z) : aAlloc D A t = ⟨none, .ptr A.length 0, A ++ [.box z]⟩ := by unfold aAlloc; rw [hz]
/-- a whole box is written -/
theorem aStore_eq {t : TypeId} {tok : Nat} {vs : List AV} {v : AV} (hb : A[tok]? = some (.box vs)) (hs : Nat.blt 0 (tsz D t) = true) (hf : goodC A (acells v) = true) (h1 : (acells v).length = tsz D t) (h2 : vs.length = tsz D t) :
    aStore D A t (.ptr tok 0) v = ⟨none, .unk, A.set tok (.box (acells v))⟩ := by
  unfold aStore
  rw [hs]
  simp only
  rw [hb]
  simp only
  have hfit : fits A (acells v) (tsz D t) 0 vs.length = true := by
    unfold fits
    rw [hf, h1, h2]
    simp
  rw [hfit]
  unfold setRange
  rw [List.take_zero, List.nil_append, List.drop_eq_nil_of_le (by omega), List.append_nil]
  rfl
theorem aLoad_eq {t : TypeId} {tok : Nat} {vs : List AV} (hb : A[tok]? = some (.box vs)) (ha : tagg D t = some true) (hs : Nat.blt 0 (tsz D t) = true) (h2 : vs.length = tsz D t) : aLoad D G A t (.ptr tok 0) = (none, .agg vs) := by
  unfold aLoad
  rw [ha]
  simp only
  rw [hb]
  simp only
  have hg : (Nat.blt 0 (tsz D t) && Nat.ble (0 + tsz D t) vs.length) = true := by rw [hs, h2]; simp
  rw [hg]
  show (none, AV.agg (List.take (tsz D t) (List.drop 0 vs))) = (none, AV.agg vs)
  rw [List.drop_zero, ← h2, List.take_length]
theorem aReg_ops (h : aOps P D G N L L T A Q) : aReg P D G N L false T A Q := h
theorem aOps_mop {d : Nat} (hd : o.dst = some d) (hN : Nat.blt d N = true) (hg : o.guard = none) (hk : aKind D A T o.op = .mop) (h : AAct P G A T o.op fun v A' => aOps P D G N L os ((d, v) :: T) A' Q) : aOps P D G N L (o :: os) T A Q := by
  unfold aOps
  rw [hd]
  simp only [hN]
  rw [sgRun_ag (isAdd_not (D := D) (A := A) (T := T) (by rw [hk]; exact fun h => by cases h))]
  unfold agRun
  rw [hg]
  simp only
  unfold aRun
  rw [hk]
  exact h.mono fun r A' hr => force_of _ _ _ hr
theorem aOps_mopN (hd : o.dst = none) (hg : o.guard = none) (hk : aKind D A T o.op = .mop) (h : AAct P G A T o.op fun _ A' => aOps P D G N L os T A' Q) : aOps P D G N L (o :: os) T A Q := by
  unfold aOps
  rw [hd]
  simp only []
  rw [sgRun_ag (isAdd_not (D := D) (A := A) (T := T) (by rw [hk]; exact fun h => by cases h))]
  unfold agRun
  rw [hg]
  simp only
  unfold aRun
  rw [hk]
  exact h.mono fun r A' hr => force_of r A' (fun _ A' => aOps P D G N L os T A' Q) hr
end
end Go.Ab
/-
  Sums that may wrap around (where a mark lies in the state).
-/
namespace Go.Ab
open Go
section
variable {P : Program} {G : List (Nat × Value)} {A : List AO} {T : List (Nat × AV)} {Kk : AV → List AO → Prop}
theorem aact_addW {t z : TypeId} {x y : Operand} {a b : Int} (hx : ev T x = .fz (.int .i64) a) (hy : ev T y = .fz (.int .i64) b) (h : Kk (.fz (.int .i64) (IntKind.i64.wrap (a + b))) A) : AAct P G A T (.binOp .add t x y z) Kk := by
  refine ⟨?_⟩
  rintro c ac ⟨dst, op, type, pos, after, guard⟩ H hA hG rfl hT
  have rx := hT x (by simp [Op.operands])
  have ry := hT y (by simp [Op.operands])
  rw [hx] at rx
  rw [hy] at ry
  have rx := rel_int.1 rx
  have ry := rel_int.1 ry
  subst hA
  refine ⟨c, .value (.int .i64 (IntKind.i64.wrap (a + b))), .int .i64 (IntKind.i64.wrap (a + b)), _, ?_, .inl rfl, Ext.refl c, H, rel_int.2 rfl, h⟩
  simp [execOp, rx, ry, eqGuard, binOp, Op.intArith]
end
/-- 64 bits of a number -/
def wr (n : Nat) : Int := IntKind.i64.wrap (n : Int)
theorem wr_small {n : Nat} (h : n ≤ 9223372036854775807) : wr n = (n : Int) := by unfold wr; exact I64.wrap (by unfold I64; omega)
theorem wr_add (n k : Nat) : IntKind.i64.wrap (wr n + (k : Int)) = wr (n + k) := by
  unfold wr
  simp only [IntKind.wrap, IntKind.bits, IntKind.signed]
  simp
  omega
theorem wr_bd (n : Nat) : -9223372036854775808 ≤ wr n ∧ wr n ≤ 9223372036854775807 := by
  unfold wr
  simp only [IntKind.wrap, IntKind.bits, IntKind.signed]
  simp
  omega
end Go.Ab
/-
  Is a map valid: what is asked, plainly.
-/
namespace Shp
def tot (m : Arcs) (i : Nat) : Nat := ((m.take i).map List.length).sum
theorem tot_zero (m : Arcs) : tot m 0 = 0 := by simp [tot]
theorem tot_next {m : Arcs} {i : Nat} (h : i < m.length) : tot m (i + 1) = tot m i + (arc m i).length := by
  unfold tot
  rw [List.take_add_one, List.getElem?_eq_getElem h]
  have : arc m i = m[i] := by unfold arc; rw [List.getD_eq_getElem?_getD, List.getElem?_eq_getElem h]; rfl
  rw [this, List.map_append, List.sum_append]
  simp only [Option.toList_some, List.map_cons, List.map_nil, List.sum_cons, List.sum_nil, Nat.add_zero]
theorem tot_le {m : Arcs} : ∀ (d i : Nat), tot m i ≤ tot m (i + d)
  | 0, i => Nat.le_refl _
  | d + 1, i => by
    refine Nat.le_trans (tot_le d i) ?_
    rcases Nat.lt_or_ge (i + d) m.length with h | h
    · rw [← Nat.add_assoc, tot_next h]; omega
    · unfold tot
      rw [List.take_of_length_le (by omega), List.take_of_length_le (by omega)]
      exact Nat.le_refl _
theorem tot_full {m : Arcs} {i : Nat} (h : i ≤ m.length) : tot m i ≤ tot m m.length := by
  have := tot_le (m := m) (m.length - i) i
  rwa [show i + (m.length - i) = m.length by omega] at this
theorem len_tot {m : Arcs} {i : Nat} (h : i < m.length) : (arc m i).length ≤ tot m m.length := by
  have h1 := tot_next h
  have h2 := tot_full (m := m) (i := i + 1) (by omega)
  omega
theorem tot_big {m : Arcs} {b : Nat} (h : ∀ i, i < m.length → (arc m i).length ≤ b) : ∀ i, i ≤ m.length → tot m i ≤ i * b
  | 0, _ => by rw [tot_zero]; exact Nat.zero_le _
  | i + 1, hi => by
    have := tot_big h i (by omega)
    have h2 := h i (by omega)
    rw [tot_next (by omega), Nat.succ_mul]
    omega
theorem tot_wr {m : Arcs} (h : ∀ i, i < m.length → (arc m i).length ≤ 8796093022208) (hl : m.length ≤ 70) : Go.Ab.wr (tot m m.length) = (tot m m.length : Int) := by
  have h1 := tot_big h m.length (Nat.le_refl _)
  have h2 : m.length * 8796093022208 ≤ 70 * 8796093022208 := Nat.mul_le_mul_right _ hl
  exact Go.Ab.wr_small (by omega)
def twin (a : List Sp) : Prop := ∃ j, j + 1 < a.length ∧ at_ a j = at_ a (j + 1)
instance (a : List Sp) : Decidable (twin a) := decidable_of_iff ((List.range a.length).any fun j => decide (j + 1 < a.length) && decide (at_ a j = at_ a (j + 1)) = true) (by
  unfold twin
  simp only [List.any_eq_true, List.mem_range, Bool.and_eq_true, decide_eq_true_eq]
  constructor
  · rintro ⟨j, _, h⟩; exact ⟨j, h⟩
  · rintro ⟨j, h⟩; exact ⟨j, by omega, h⟩)
/-- an arc that is none -/
def badA (g : Sp → Bool) (a : List Sp) : Bool := decide (a.length < 2) || (a.any g || ((decide (at_ a 0 = at_ a (a.length - 1)) && decide (a.length < 4)) || decide (twin a)))
theorem badA_iff (g : Sp → Bool) (a : List Sp) : badA g a = false ↔ 2 ≤ a.length ∧ (∀ t, t < a.length → g (at_ a t) = false) ∧ ¬ (at_ a 0 = at_ a (a.length - 1) ∧ a.length < 4) ∧ ∀ j, j + 1 < a.length → at_ a j ≠ at_ a (j + 1) := by
  unfold badA
  simp only [Bool.or_eq_false_iff, Bool.and_eq_false_iff, decide_eq_false_iff_not, List.any_eq_false, Bool.not_eq_true]
  constructor
  · rintro ⟨h1, h2, h3, h4⟩
    refine ⟨by omega, fun t ht => h2 _ ?_, ?_, fun j hj e => h4 ⟨j, hj, e⟩⟩
    · unfold at_; rw [List.getD_eq_getElem?_getD, List.getElem?_eq_getElem ht]; exact List.getElem_mem ht
    · rintro ⟨a1, a2⟩; rcases h3 with h | h
      · exact h a1
      · exact h a2
  · rintro ⟨h1, h2, h3, h4⟩
    refine ⟨by omega, fun x hx => ?_, ?_, fun ⟨j, hj, e⟩ => h4 j hj e⟩
    · obtain ⟨t, ht, rfl⟩ := List.getElem_of_mem hx
      have := h2 t ht
      unfold at_ at this
      rwa [List.getD_eq_getElem?_getD, List.getElem?_eq_getElem ht] at this
    · by_cases c : at_ a 0 = at_ a (a.length - 1)
      · exact .inr fun h => h3 ⟨c, h⟩
      · exact .inl c
open Classical in
/-- 0, or the number of an error -/
noncomputable def vE (g : Sp → Bool) (m : Arcs) : Nat := if 60 < m.length ∨ 4000 < tot m m.length then 2 else if ∃ i, i < m.length ∧ badA g (arc m i) = true then 3 else if noMeet m ∧ inOnce m then 0 else 7
theorem vE_bound {g : Sp → Bool} {m : Arcs} (h : 60 < m.length ∨ 4000 < tot m m.length) : vE g m = 2 := by unfold vE; rw [if_pos h]
theorem vE_shape {g : Sp → Bool} {m : Arcs} (h : ¬ (60 < m.length ∨ 4000 < tot m m.length)) (h' : ∃ i, i < m.length ∧ badA g (arc m i) = true) : vE g m = 3 := by unfold vE; rw [if_neg h, if_pos h']
theorem vE_order {g : Sp → Bool} {m : Arcs} (h : ¬ (60 < m.length ∨ 4000 < tot m m.length)) (h' : ∀ i, i < m.length → badA g (arc m i) = false) (h2 : ¬ (noMeet m ∧ inOnce m)) : vE g m = 7 := by
  unfold vE; rw [if_neg h, if_neg (fun ⟨i, a, b⟩ => by rw [h' i a] at b; cases b), if_neg h2]
theorem vE_ok {g : Sp → Bool} {m : Arcs} (h : ¬ (60 < m.length ∨ 4000 < tot m m.length)) (h' : ∀ i, i < m.length → badA g (arc m i) = false) (h2 : noMeet m ∧ inOnce m) : vE g m = 0 := by
  unfold vE; rw [if_neg h, if_neg (fun ⟨i, a, b⟩ => by rw [h' i a] at b; cases b), if_pos h2]
/-- all that a valid map is -/
theorem vE_zero {g : Sp → Bool} {m : Arcs} (h : vE g m = 0) : (m.length ≤ 60 ∧ tot m m.length ≤ 4000) ∧ (∀ i, i < m.length → badA g (arc m i) = false) ∧ noMeet m ∧ inOnce m := by
  unfold vE at h
  by_cases h1 : 60 < m.length ∨ 4000 < tot m m.length
  · rw [if_pos h1] at h; cases h
  · rw [if_neg h1] at h
    by_cases h2 : ∃ i, i < m.length ∧ badA g (arc m i) = true
    · rw [if_pos h2] at h; cases h
    · rw [if_neg h2] at h
      by_cases h3 : noMeet m ∧ inOnce m
      · exact ⟨⟨by omega, by omega⟩, fun i hi => Bool.eq_false_iff.2 fun c => h2 ⟨i, hi, c⟩, h3⟩
      · rw [if_neg h3] at h; cases h
theorem vE_le (g : Sp → Bool) (m : Arcs) : vE g m ≤ 7 := by
  unfold vE
  split
  · omega
  · split
    · omega
    · split <;> omega
/-! ### pieces in a list -/
theorem mem_pcs {m : Arcs} {x : Pc} : ∀ i, x ∈ pcs m i ↔ ∃ j n, j < i ∧ n + 1 < (arc m j).length ∧ x = (pt m j n, pt m j (n + 1), (j : Int), (n : Int))
  | 0 => by simp [pcs]
  | i + 1 => by
    rw [pcs, List.mem_append, mem_pcs i]
    unfold pcA
    simp only [List.mem_map, List.mem_range]
    constructor
    · rintro (⟨j, n, a, b, c⟩ | ⟨n, a, b⟩)
      · exact ⟨j, n, by omega, b, c⟩
      · exact ⟨i, n, by omega, by omega, b.symm⟩
    · rintro ⟨j, n, a, b, c⟩
      by_cases e : j = i
      · subst e; exact .inr ⟨n, by omega, c.symm⟩
      · exact .inl ⟨j, n, by omega, b, c⟩
/-- two pieces do not meet -/
def apP (x y : Pc) : Prop := meet x.1 x.2.1 y.1 y.2.1 = false
theorem pcs_pw {m : Arcs} : ∀ i, (pcs m i).Pairwise apP ↔ ∀ j n p k, j < i → p < i → n + 1 < (arc m j).length → k + 1 < (arc m p).length → (j < p ∨ (j = p ∧ n < k)) → meet (pt m j n) (pt m j (n + 1)) (pt m p k) (pt m p (k + 1)) = false
  | 0 => by simp [pcs]
  | i + 1 => by
    rw [pcs, List.pairwise_append, pcs_pw i]
    unfold pcA
    rw [List.pairwise_map]
    constructor
    · rintro ⟨h1, h2, h3⟩ j n p k hj hp hn hk ho
      by_cases e : p = i
      · subst e
        by_cases e2 : j = p
        · subst e2
          have hnk : n < k := by omega
          have := List.pairwise_iff_getElem.1 h2 n k (by simp; omega) (by simp; omega) hnk
          simpa [apP, pt] using this
        · have ha := h3 (pt m j n, pt m j (n + 1), (j : Int), (n : Int)) ((mem_pcs p).2 ⟨j, n, by omega, hn, rfl⟩) (pt m p k, pt m p (k + 1), (p : Int), (k : Int)) (List.mem_map.2 ⟨k, by simp; omega, rfl⟩)
          exact ha
      · exact h1 j n p k (by omega) (by omega) hn hk ho
    · intro h
      refine ⟨fun j n p k hj hp => h j n p k (by omega) (by omega), ?_, ?_⟩
      · rw [List.pairwise_iff_getElem]
        intro n k hn hk hnk
        simp at hn hk
        simp only [List.getElem_range]
        exact h i n i k (by omega) (by omega) (by omega) (by omega) (.inr ⟨rfl, hnk⟩)
      · intro x hx y hy
        obtain ⟨j, n, a, b, rfl⟩ := (mem_pcs i).1 hx
        obtain ⟨k, c, rfl⟩ := List.mem_map.1 hy
        simp at c
        exact h j n i k (by omega) (by omega) b (by omega) (.inl a)
theorem pcs_no {m : Arcs} : (pcs m m.length).Pairwise apP ↔ noMeet m := by
  rw [pcs_pw]
  constructor
  · exact fun h i k j n hk hn ho => h j n i k hn.1 hk.1 hn.2 hk.2 ho
  · exact fun h j n p k hj hp hn hk ho => h p k j n ⟨hp, hk⟩ ⟨hj, hn⟩ ho
/-! ### inner places counted -/
def inn (a : List Sp) : List Sp := (a.drop 1).take (a.length - 2)
theorem inn_len (a : List Sp) : (inn a).length = a.length - 2 := by unfold inn; rw [List.length_take, List.length_drop]; omega
theorem inn_at {a : List Sp} {t : Nat} (h : t < a.length - 2) : at_ (inn a) t = at_ a (t + 1) := by
  unfold inn at_
  rw [List.getD_eq_getElem?_getD, List.getD_eq_getElem?_getD, List.getElem?_take, if_pos h, List.getElem?_drop, Nat.add_comm]
theorem inn_any {a : List Sp} {f : Sp → Bool} : (inn a).any f = true ↔ ∃ t, 0 < t ∧ t + 1 < a.length ∧ f (at_ a t) = true := by
  rw [List.any_eq_true]
  constructor
  · rintro ⟨x, hx, hf⟩
    obtain ⟨t, ht, rfl⟩ := List.getElem_of_mem hx
    have hl := inn_len a
    have e : (inn a)[t] = at_ a (t + 1) := by rw [← inn_at (by omega)]; unfold at_; rw [List.getD_eq_getElem?_getD, List.getElem?_eq_getElem ht]; rfl
    exact ⟨t + 1, by omega, by omega, by rw [← e]; exact hf⟩
  · rintro ⟨t, h0, h1, hf⟩
    have hl := inn_len a
    have hlt : t - 1 < (inn a).length := by omega
    have e : (inn a)[t - 1] = at_ a t := by
      have := inn_at (a := a) (t := t - 1) (by omega)
      rw [show t - 1 + 1 = t by omega] at this
      rw [← this]; unfold at_; rw [List.getD_eq_getElem?_getD, List.getElem?_eq_getElem hlt]; rfl
    exact ⟨_, List.getElem_mem hlt, by rw [e]; exact hf⟩
theorem inn_once {m : Arcs} : inOnce m ↔ ∀ i, i < m.length → (inn (arc m i)).any (fun p => decide ((1 : Int) < (m.flatten.count p : Nat))) = false := by
  rw [inOnce_iff]
  constructor
  · intro h i hi
    refine Bool.eq_false_iff.2 fun c => ?_
    obtain ⟨t, h0, h1, h2⟩ := inn_any.1 c
    refine h i t ⟨hi, by omega⟩ h0 h1 ?_
    have := of_decide_eq_true h2
    show 1 < m.flatten.count (at_ (arc m i) t)
    omega
  · intro h i t hi h0 h1 hc
    have := h i hi.1
    refine Bool.eq_false_iff.1 this (inn_any.2 ⟨t, h0, h1, decide_eq_true ?_⟩)
    show (1 : Int) < ((m.flatten.count (pt m i t) : Nat) : Int)
    omega
end Shp
/-
  Plain facts on a map made thinner: the loops, as both have them; what stays true while they run.
-/
namespace Shp
open Classical in
noncomputable def spB (most : Int) (m : Arcs) (i k : Nat) : Bool := decide (spP m i k most)
theorem spB_iff {most : Int} {m : Arcs} {i k : Nat} : spB most m i k = true ↔ spP m i k most := by unfold spB; simp
section
variable (sp : Arcs → Nat → Nat → Bool)
def kL (i : Nat) : Nat → Nat → Arcs × Bool → Arcs × Bool
  | 0, _, s => s
  | f + 1, k, s => if k + 1 < (arc s.1 i).length then (if sp s.1 i k = true then kL i f k (del s.1 i k, true) else kL i f (k + 1) s) else s
def iL : Nat → Nat → Arcs × Bool → Arcs × Bool
  | 0, _, s => s
  | r + 1, i, s => iL r (i + 1) (kL sp i (arc s.1 i).length 1 s)
def aL : Nat → Arcs → Arcs
  | 0, m => m
  | f + 1, m => if (iL sp m.length 0 (m, false)).2 = true then aL f (iL sp m.length 0 (m, false)).1 else (iL sp m.length 0 (m, false)).1
end
variable {sp : Arcs → Nat → Nat → Bool}
theorem kL_end {i f k : Nat} {s : Arcs × Bool} (h : ¬ k + 1 < (arc s.1 i).length) : kL sp i f k s = s := by
  cases f with
  | zero => rfl
  | succ f => unfold kL; rw [if_neg h]
theorem kL_go {i f k : Nat} {s : Arcs × Bool} (h : k + 1 < (arc s.1 i).length) (h1 : sp s.1 i k = true) : kL sp i (f + 1) k s = kL sp i f k (del s.1 i k, true) := by
  rw [kL, if_pos h, if_pos h1]
theorem kL_stay {i f k : Nat} {s : Arcs × Bool} (h : k + 1 < (arc s.1 i).length) (h1 : sp s.1 i k = false) : kL sp i (f + 1) k s = kL sp i f (k + 1) s := by
  rw [kL, if_pos h, if_neg (by rw [h1]; decide)]
/-- what every removal keeps -/
def keeps (sp : Arcs → Nat → Nat → Bool) (P : Arcs → Prop) : Prop := ∀ m i k, P m → i < m.length → 0 < k → k + 1 < (arc m i).length → sp m i k = true → P (del m i k)
theorem kL_keep {P : Arcs → Prop} (hP : keeps sp P) {i : Nat} : ∀ (f k : Nat) (s : Arcs × Bool), P s.1 → 0 < k → i < s.1.length → P (kL sp i f k s).1
  | 0, _, s, h, _, _ => h
  | f + 1, k, s, h, hk, hi => by
    by_cases h1 : k + 1 < (arc s.1 i).length
    · cases h2 : sp s.1 i k with
      | true => rw [kL_go h1 h2]; exact kL_keep hP f k _ (hP _ _ _ h hi hk h1 h2) hk (by rw [del_length]; exact hi)
      | false => rw [kL_stay h1 h2]; exact kL_keep hP f _ s h (by omega) hi
    · rw [kL_end h1]; exact h
theorem len_keep (n : Nat) : keeps sp (fun m => m.length = n) := fun m i k h _ _ _ _ => by show (del m i k).length = n; rw [del_length]; exact h
theorem kL_len {i f k : Nat} {s : Arcs × Bool} (hi : i < s.1.length) (hk : 0 < k) : (kL sp i f k s).1.length = s.1.length := kL_keep (len_keep _) f k s rfl hk hi
theorem iL_keep {P : Arcs → Prop} (hP : keeps sp P) : ∀ (r i : Nat) (s : Arcs × Bool), P s.1 → i + r ≤ s.1.length → P (iL sp r i s).1
  | 0, _, s, h, _ => h
  | r + 1, i, s, h, hi => by
    rw [iL]
    exact iL_keep hP r (i + 1) _ (kL_keep hP _ _ s h (by omega) (by omega)) (by rw [kL_len (by omega) (by omega)]; omega)
theorem aL_keep {P : Arcs → Prop} (hP : keeps sp P) : ∀ (f : Nat) (m : Arcs), P m → P (aL sp f m)
  | 0, m, h => h
  | f + 1, m, h => by
    have h1 := iL_keep hP m.length 0 (m, false) h (by simp)
    rw [aL]
    split
    · exact aL_keep hP f _ h1
    · exact h1
/-- points of a map -/
def all (m : Arcs) : Nat := tot m m.length
theorem tot_sum (m : Arcs) : all m = (m.map List.length).sum := by unfold all tot; rw [List.take_length]
theorem all_del {m : Arcs} {i k : Nat} (hi : i < m.length) (hk : k < (arc m i).length) : all (del m i k) + 1 = all m := by
  rw [tot_sum, tot_sum]
  have e : m = m.take i ++ arc m i :: m.drop (i + 1) := flat_split hi
  have e2 : del m i k = m.take i ++ (arc m i).eraseIdx k :: m.drop (i + 1) := by
    unfold del
    rw [List.set_eq_take_append_cons_drop, if_pos hi]
  rw [e2]
  conv => rhs; rw [e]
  simp only [List.map_append, List.map_cons, List.sum_append, List.sum_cons, List.length_eraseIdx, if_pos hk]
  omega
/-- a round that changed something left fewer points -/
def fell (n : Nat) (s : Arcs × Bool) : Prop := all s.1 ≤ n ∧ (s.2 = true → all s.1 < n)
theorem kL_fell {i n : Nat} : ∀ (f k : Nat) (s : Arcs × Bool), fell n s → 0 < k → i < s.1.length → fell n (kL sp i f k s)
  | 0, _, s, h, _, _ => h
  | f + 1, k, s, h, hk, hi => by
    by_cases h1 : k + 1 < (arc s.1 i).length
    · cases h2 : sp s.1 i k with
      | true =>
        rw [kL_go h1 h2]
        have := all_del hi (k := k) (by omega)
        exact kL_fell f k _ ⟨by have := h.1; show all (del s.1 i k) ≤ n; omega, fun _ => by have := h.1; show all (del s.1 i k) < n; omega⟩ hk (by rw [del_length]; exact hi)
      | false => rw [kL_stay h1 h2]; exact kL_fell f _ s h (by omega) hi
    · rw [kL_end h1]; exact h
theorem iL_fell {n : Nat} : ∀ (r i : Nat) (s : Arcs × Bool), fell n s → i + r ≤ s.1.length → fell n (iL sp r i s)
  | 0, _, s, h, _ => h
  | r + 1, i, s, h, hi => by
    rw [iL]
    exact iL_fell r (i + 1) _ (kL_fell _ _ s h (by omega) (by omega)) (by rw [kL_len (by omega) (by omega)]; omega)
theorem round_fell (m : Arcs) : fell (all m) (iL sp m.length 0 (m, false)) := iL_fell _ _ _ ⟨Nat.le_refl _, fun h => (by cases h)⟩ (by simp)
theorem aL_step {f : Nat} {m : Arcs} : aL sp (f + 1) m = if (iL sp m.length 0 (m, false)).2 = true then aL sp f (iL sp m.length 0 (m, false)).1 else (iL sp m.length 0 (m, false)).1 := rfl
/-! ### once more -/
theorem kL_quiet {i : Nat} : ∀ (f k : Nat) (s : Arcs × Bool), (kL sp i f k s).2 = false → kL sp i f k s = s
  | 0, _, s, _ => rfl
  | f + 1, k, s, h => by
    by_cases h1 : k + 1 < (arc s.1 i).length
    · cases h2 : sp s.1 i k with
      | true =>
        rw [kL_go h1 h2] at h ⊢
        have := kL_quiet f k _ h
        rw [this] at h
        cases h
      | false => rw [kL_stay h1 h2] at h ⊢; exact kL_quiet f _ s h
    · rw [kL_end h1]
theorem iL_quiet : ∀ (r i : Nat) (s : Arcs × Bool), (iL sp r i s).2 = false → iL sp r i s = s
  | 0, _, s, _ => rfl
  | r + 1, i, s, h => by
    rw [iL] at h ⊢
    have h1 := iL_quiet r (i + 1) _ h
    rw [h1] at h ⊢
    exact kL_quiet _ _ s h
/-- thinned: nothing is left to do -/
theorem aL_quiet : ∀ (f : Nat) (m : Arcs), all m < f → (iL sp (aL sp f m).length 0 (aL sp f m, false)).2 = false
  | 0, m, h => absurd h (Nat.not_lt_zero _)
  | f + 1, m, h => by
    rw [aL_step]
    have hf := round_fell (sp := sp) m
    cases h2 : (iL sp m.length 0 (m, false)).2 with
    | true =>
      rw [if_pos rfl]
      exact aL_quiet f _ (by have := hf.2 h2; omega)
    | false =>
      rw [if_neg (by decide)]
      have := iL_quiet _ _ _ h2
      rw [this]
      exact h2
noncomputable def thinned (most : Int) (m : Arcs) : Arcs := aL (spB most) (all m + 1) m
theorem thinned_again (most : Int) (m : Arcs) : thinned most (thinned most m) = thinned most m := by
  have h := aL_quiet (sp := spB most) (all m + 1) m (Nat.lt_succ_self _)
  have e : thinned most m = aL (spB most) (all m + 1) m := rfl
  rw [← e] at h
  show aL (spB most) (all (thinned most m) + 1) (thinned most m) = _
  rw [aL_step, h, if_neg (by decide), iL_quiet _ _ _ h]
/-! ### a valid map stays one -/
theorem right_of {g : Sp → Bool} {m : Arcs} (h : vE g m = 0) : Right m := by
  obtain ⟨_, h2, h3, h4⟩ := vE_zero h
  refine ⟨fun i hi => ((badA_iff _ _).1 (h2 i hi)).1, fun i hi e => ?_, fun i k hk => ((badA_iff _ _).1 (h2 i hk.1)).2.2.2 k hk.2, h3, h4⟩
  have := ((badA_iff _ _).1 (h2 i hi)).2.2.1
  exact Classical.byContradiction fun c => this ⟨e, by omega⟩
theorem vE_right {g : Sp → Bool} {m : Arcs} (h1 : m.length ≤ 60) (h2 : all m ≤ 4000) (h3 : ∀ i t, inM m i t → g (pt m i t) = false) (R : Right m) : vE g m = 0 := by
  refine vE_ok (by unfold all at h2; omega) (fun i hi => (badA_iff _ _).2 ⟨R.two i hi, fun t ht => h3 i t ⟨hi, ht⟩, fun e => ?_, fun j hj => R.step i j ⟨hi, hj⟩⟩) ⟨R.meets, R.once⟩
  have := R.four i hi e.1
  omega
theorem inM_del {m : Arcs} {i k j t : Nat} (hi : i < m.length) (hk : k < (arc m i).length) (h : inM (del m i k) j t) : ∃ t', inM m j t' ∧ pt (del m i k) j t = pt m j t' := by
  obtain ⟨h1, h2⟩ := h
  rw [del_length] at h1
  by_cases hj : j = i
  · subst hj
    rw [len_del hi hk] at h2
    refine ⟨old k t, ⟨h1, ?_⟩, pt_del hi⟩
    unfold old; split <;> omega
  · rw [arc_del_ne hj] at h2
    exact ⟨t, ⟨h1, h2⟩, pt_del_ne hj⟩
theorem right_spP {m : Arcs} {i k : Nat} {most : Int} (R : Right m) (hi : i < m.length) (h0 : 0 < k) (hk : k + 1 < (arc m i).length) (hs : spP m i k most) : Right (del m i k) := ((sp_iff R hi h0 hk most).1 hs).2.2.2
theorem vE_keep (g : Sp → Bool) (most : Int) : keeps (spB most) (fun m => vE g m = 0) := fun m i k h hi h0 hk hs => by
  have h : vE g m = 0 := h
  obtain ⟨⟨h1, h2⟩, h3, _⟩ := vE_zero h
  have h2 : all m ≤ 4000 := h2
  have := all_del hi (k := k) (by omega)
  refine vE_right (by rw [del_length]; exact h1) (by omega) (fun j t hj => ?_) (right_spP (right_of h) hi h0 hk (spB_iff.1 hs))
  obtain ⟨t', a, b⟩ := inM_del hi (by omega) hj
  rw [b]
  exact ((badA_iff _ _).1 (h3 j a.1)).2.1 t' a.2
end Shp
/-
  Raw: a frame's slots by a list; regions in order, operation by operation.
-/
namespace Go.Ab
open Go Go.RowKit
def lkV : List (Nat × Value) → Nat → Option Value
  | [], _ => none
  | (d, v) :: L, n => if d = n then some v else lkV L n
/-- what the slots hold -/
structure RS (N : Nat) (L : List (Nat × Value)) (a : Act) : Prop where
  ev : ∀ t v, lkV L t = some v → a.tmps.getD t undef = v
  d : a.defers = []
  n : a.tmps.size = N
section
variable {N : Nat} {L : List (Nat × Value)} {a : Act}
theorem RS.get (h : RS N L a) (t : Nat) {v : Value} (e : lkV L t = some v) : a.eval (.tmp t) = v := h.ev t v e
theorem RS.put (h : RS N L a) {t : Nat} {v : Value} (ht : Nat.blt t N = true) : RS N ((t, v) :: L) (a.put (some t) v) := by
  have ht := blt_of ht
  refine ⟨fun s u e => ?_, put_defers.trans h.d, put_size.trans h.n⟩
  rw [put_get (d := some t) (u := v) (fun x hx => by cases hx; rw [h.n]; exact ht) s]
  unfold lkV at e
  by_cases c : t = s
  · subst c
    rw [if_pos rfl] at e ⊢
    exact Option.some.inj e
  · rw [if_neg c] at e
    rw [if_neg (fun x => c (Option.some.inj x))]
    exact h.ev s u e
theorem RS.none (h : RS N L a) {v : Value} : RS N L (a.put none v) := h
def subV (L : List (Nat × Value)) : List (Nat × Value) → Prop
  | [] => True
  | (d, v) :: L' => lkV L d = some v ∧ subV L L'
theorem subV_lk : ∀ {L' : List (Nat × Value)}, subV L L' → ∀ t v, lkV L' t = some v → lkV L t = some v
  | [], _, t, v, e => by cases e
  | (d, u) :: L', h, t, v, e => by
    unfold lkV at e
    by_cases c : d = t
    · subst c; rw [if_pos rfl] at e; rw [← e]; exact h.1
    · rw [if_neg c] at e; exact subV_lk h.2 t v e
theorem RS.sub (h : RS N L a) {L' : List (Nat × Value)} (hs : subV L L') : RS N L' a := ⟨fun t v e => h.ev t v (subV_lk hs t v e), h.d, h.n⟩
theorem lkV_mem : ∀ {L : List (Nat × Value)} {t : Nat} {v : Value}, lkV L t = some v → (t, v) ∈ L
  | (d, u) :: L, t, v, e => by
    unfold lkV at e
    by_cases c : d = t
    · subst c; rw [if_pos rfl] at e; cases e; exact List.mem_cons_self ..
    · rw [if_neg c] at e; exact List.mem_cons_of_mem _ (lkV_mem e)
/-- slots that another piece of code has left as they were -/
theorem RS.keep (h : RS N L a) {L' : List (Nat × Value)} {a' : Act} (hs : subV L L') (hk : ∀ p ∈ L', a'.tmps.getD p.1 undef = a.tmps.getD p.1 undef) (hd : a'.defers = []) (hn : a'.tmps.size = N) : RS N L' a' :=
  ⟨fun t v e => (hk _ (lkV_mem e)).trans (h.ev t v (subV_lk hs t v e)), hd, hn⟩
end
section
variable {P : Program} {L : List Oper} {Q : Exit → Act → World → Prop} {N : Nat} {R : List (Nat × Value)} {a : Act} {w w' : World}
theorem rs_region {id : Nat} (h : wpOps P L.toArray Q (List.range' 0 L.length) a w) : (Code.region id ⟨L⟩ false).wp P Q a w := wp_region_list h
theorem wpOps_one {i : Nat} {rest : List Nat} {o : Oper} (ho : L[i]? = some o) (hg : o.guard = none) (h : o.wp P a w (wpOps P L.toArray Q rest) Q) : wpOps P L.toArray Q (i :: rest) a w := by
  unfold wpOps
  have hi' : L.toArray[i]? = some o := by simpa using ho
  rw [hi']
  simp only
  have hw : Region.wanted o (yielded L.toArray a.tmps) = true := by unfold Region.wanted; rw [hg]
  rw [if_pos hw]
  exact .inl h
theorem rs_val (v : Value) (w' : World) {i : Nat} {rest : List Nat} {o : Oper} {t : Nat} (h : RS N R a) (ho : L[i]? = some o) (hg : o.guard = none) (hd : o.dst = some t) (ht : Nat.blt t N = true)
    (hrun : (execOp a.eval o).run P w = .ok (.value v) w') (k : ∀ a, RS N ((t, v) :: R) a → wpOps P L.toArray Q rest a w') : wpOps P L.toArray Q (i :: rest) a w :=
  wpOps_one ho hg (wp_val hrun (by rw [hd]; exact k _ (h.put ht)))
theorem rs_call {i : Nat} {rest : List Nat} {o : Oper} {t : Nat} {f : FuncId} {vs : Array Value} (h : RS N R a) (ho : L[i]? = some o) (hg : o.guard = none) (hd : o.dst = some t) (ht : Nat.blt t N = true)
    (hrun : (execOp a.eval o).run P w = .ok (.enter f vs) w) (hc : Calls P f vs w fun e w' => ∃ v, e = .returned v ∧ ∀ a, RS N ((t, v) :: R) a → wpOps P L.toArray Q rest a w') : wpOps P L.toArray Q (i :: rest) a w :=
  wpOps_one ho hg (wp_call hrun (hc.mono fun e w' ⟨v, he, hk⟩ => ⟨v, he, by rw [hd]; exact hk _ (h.put ht)⟩))
end
theorem lss_run {P : Program} {w : World} {t : TypeId} (x y : Int) : (binOp .lss t (.int .i64 x) (.int .i64 y)).run P w = .ok (.bool (decide (x < y))) w := by
  simp [binOp, Op.intCmp]
theorem i64_wrap {x : Int} (h1 : -9223372036854775808 ≤ x) (h2 : x ≤ 9223372036854775807) : IntKind.i64.wrap x = x := by rw [IntKind.wrap_i64]; omega
theorem add_run {P : Program} {w : World} {t : TypeId} {x y : Int} (h1 : -9223372036854775808 ≤ x + y) (h2 : x + y ≤ 9223372036854775807) : (binOp .add t (.int .i64 x) (.int .i64 y)).run P w = .ok (.int .i64 (x + y)) w := by
  simp [binOp, Op.intArith, i64_wrap h1 h2]
theorem sub_run {P : Program} {w : World} {t : TypeId} {x y : Int} (h1 : -9223372036854775808 ≤ x - y) (h2 : x - y ≤ 9223372036854775807) : (binOp .sub t (.int .i64 x) (.int .i64 y)).run P w = .ok (.int .i64 (x - y)) w := by
  simp [binOp, Op.intArith, i64_wrap h1 h2]
/-! ### a piece walked by the engine, another behind it -/
structure EntS (n0 : Nat) (σ σ' : St) : Prop where
  out : Ent n0 σ σ'
theorem wp_seg {E : Env} (ok : EnvOk E) {c0 : Cx} (hG : c0.G = E.G) {x y : Code} {σ σ1 : St} {Q : Exit → St → Prop} {a : Act} {w : World} (hs : Sim E.n0 c0 E.N σ a w)
    (hx : awp E x (fun e σ' => match e with
      | .normal => EntS E.n0 σ' σ1
      | e => Q e σ') σ) (hy : ∀ a w, Sim E.n0 c0 E.N σ1 a w → y.wp E.P (Post E c0 Q) a w) : (x.seq y).wp E.P (Post E c0 Q) a w := by
  refine wp_seq (wp_mono (awp_sound ok c0 hG x _ σ a w hx hs) fun e a' w' ⟨σ', hq, hs'⟩ => ?_)
  cases e with
  | normal =>
    refine hy a' w' ?_
    have hq : Ent E.n0 σ' σ1 := EntS.out hq
    obtain ⟨cx, hw, hA, H, hT, hE, hd, hN⟩ := hs'
    obtain ⟨c', k1, k2, k3, k4, k5⟩ := hq cx H hA hE.le.len _ hT
    exact ⟨c', k1.trans hw, k4, k3, k5, hE.trans k2, hd, hN⟩
  | _ => exact ⟨σ', hq, hs'⟩
end Go.Ab
/-
  Thin, raw: the first loop: each arc laid anew.
-/
namespace Go.Proofs.YtcfalmdfohphoaaDoor
open Go Go.Ab Go.RowKit
set_option maxRecDepth 100000
namespace thin
def r6 : List Oper := [{ dst := some 7, op := Op.alloc 33, type := 0, pos := "shape.go:308", after := #[], guard := none }]
def r7 : List Oper := [{ dst := some 23, op := Op.fieldAddr 33 (Operand.tmp 2) 0, type := 0, pos := "shape.go:309", after := #[], guard := none }, { dst := some 24, op := Op.load 31 (Operand.tmp 23), type := 31, pos := "shape.go:309", after := #[{ on := 0, ground := Ground.data }], guard := none }, { dst := some 25, op := Op.call { callee := Callee.builtin Builtin.len, args := #[Operand.tmp 24], argTypes := #[31] }, type := 3, pos := "shape.go:309", after := #[{ on := 1, ground := Ground.data }], guard := none }, { dst := some 26, op := Op.move (Operand.const (Value.int IntKind.i64 0)), type := 3, pos := "shape.go:309", after := #[], guard := none }]
def r8 : List Oper := [{ dst := some 27, op := Op.binOp BinOp.lss 3 (Operand.tmp 26) (Operand.tmp 25) 3, type := 0, pos := "shape.go:309", after := #[], guard := none }]
def r9 : List Oper := [{ dst := some 28, op := Op.indexAddr 31 (Operand.tmp 24) (Operand.tmp 26), type := 0, pos := "shape.go:309", after := #[], guard := none }, { dst := some 29, op := Op.load 44 (Operand.tmp 28), type := 44, pos := "shape.go:309", after := #[{ on := 0, ground := Ground.data }], guard := none }, { dst := some 9, op := Op.assign (Operand.tmp 29), type := 44, pos := "shape.go:309", after := #[{ on := 1, ground := Ground.data }, { on := 0, ground := Ground.phase }, { on := 1, ground := Ground.phase }], guard := none }]
def r11 : List Oper := [{ dst := some 37, op := Op.binOp BinOp.add 3 (Operand.tmp 26) (Operand.const (Value.int IntKind.i64 1)) 3, type := 3, pos := "shape.go:309", after := #[], guard := none }, { dst := some 26, op := Op.move (Operand.tmp 37), type := 3, pos := "shape.go:309", after := #[{ on := 0, ground := Ground.data }], guard := none }]
def r12 : List Oper := [{ dst := some 10, op := Op.assign (Operand.const (Value.bool true)), type := 4, pos := "shape.go:312", after := #[], guard := none }]
def r13 : List Oper := [{ dst := some 38, op := Op.move (Operand.tmp 10), type := 4, pos := "shape.go:312", after := #[], guard := none }]
def r14 : List Oper := [{ dst := some 10, op := Op.assign (Operand.const (Value.bool false)), type := 4, pos := "shape.go:313", after := #[], guard := none }]
def r15 : List Oper := [{ dst := some 39, op := Op.fieldAddr 33 (Operand.tmp 7) 0, type := 0, pos := "shape.go:314", after := #[], guard := none }, { dst := some 40, op := Op.load 31 (Operand.tmp 39), type := 31, pos := "shape.go:314", after := #[{ on := 0, ground := Ground.data }], guard := none }, { dst := some 41, op := Op.call { callee := Callee.builtin Builtin.len, args := #[Operand.tmp 40], argTypes := #[31] }, type := 3, pos := "shape.go:314", after := #[{ on := 1, ground := Ground.data }], guard := none }, { dst := some 42, op := Op.move (Operand.const (Value.int IntKind.i64 0)), type := 3, pos := "shape.go:314", after := #[], guard := none }]
def r16 : List Oper := [{ dst := some 43, op := Op.binOp BinOp.lss 3 (Operand.tmp 42) (Operand.tmp 41) 3, type := 0, pos := "shape.go:314", after := #[], guard := none }]
def r17 : List Oper := [{ dst := some 44, op := Op.move (Operand.tmp 42), type := 3, pos := "shape.go:314", after := #[], guard := none }, { dst := some 11, op := Op.assign (Operand.tmp 44), type := 3, pos := "shape.go:314", after := #[{ on := 0, ground := Ground.data }, { on := 0, ground := Ground.phase }], guard := none }]
def r18 : List Oper := [{ dst := some 12, op := Op.assign (Operand.const (Value.int IntKind.i64 1)), type := 3, pos := "shape.go:315", after := #[], guard := none }]
def r19 : List Oper := [{ dst := some 45, op := Op.move (Operand.tmp 12), type := 3, pos := "shape.go:315", after := #[], guard := none }, { dst := some 46, op := Op.fieldAddr 33 (Operand.tmp 7) 0, type := 0, pos := "shape.go:315", after := #[], guard := none }, { dst := some 47, op := Op.load 31 (Operand.tmp 46), type := 31, pos := "shape.go:315", after := #[{ on := 1, ground := Ground.data }], guard := none }, { dst := some 48, op := Op.move (Operand.tmp 11), type := 3, pos := "shape.go:315", after := #[], guard := none }, { dst := some 49, op := Op.indexAddr 31 (Operand.tmp 47) (Operand.tmp 48), type := 0, pos := "shape.go:315", after := #[{ on := 2, ground := Ground.data }, { on := 3, ground := Ground.data }], guard := none }, { dst := some 50, op := Op.load 44 (Operand.tmp 49), type := 44, pos := "shape.go:315", after := #[{ on := 4, ground := Ground.data }], guard := none }, { dst := some 51, op := Op.call { callee := Callee.builtin Builtin.len, args := #[Operand.tmp 50], argTypes := #[44] }, type := 3, pos := "shape.go:315", after := #[{ on := 5, ground := Ground.data }], guard := none }, { dst := some 52, op := Op.binOp BinOp.sub 3 (Operand.tmp 51) (Operand.const (Value.int IntKind.i64 1)) 3, type := 3, pos := "shape.go:315", after := #[{ on := 6, ground := Ground.data }], guard := none }, { dst := some 53, op := Op.binOp BinOp.lss 3 (Operand.tmp 45) (Operand.tmp 52) 3, type := 4, pos := "shape.go:315", after := #[{ on := 0, ground := Ground.data }, { on := 7, ground := Ground.data }], guard := none }]
def r20 : List Oper := [{ dst := some 54, op := Op.load 33 (Operand.tmp 7), type := 33, pos := "shape.go:316", after := #[], guard := none }, { dst := some 55, op := Op.move (Operand.tmp 11), type := 3, pos := "shape.go:316", after := #[], guard := none }, { dst := some 56, op := Op.move (Operand.tmp 12), type := 3, pos := "shape.go:316", after := #[], guard := none }, { dst := some 57, op := Op.move (Operand.tmp 1), type := 3, pos := "shape.go:316", after := #[], guard := none }, { dst := some 58, op := Op.call { callee := Callee.value (Operand.func 31), args := #[Operand.tmp 54, Operand.tmp 55, Operand.tmp 56, Operand.tmp 57], argTypes := #[33, 3, 3, 3] }, type := 4, pos := "shape.go:316", after := #[{ on := 0, ground := Ground.data }, { on := 1, ground := Ground.data }, { on := 2, ground := Ground.data }, { on := 3, ground := Ground.data }], guard := none }]
def r22 : List Oper := [{ dst := some 10, op := Op.assign (Operand.const (Value.bool true)), type := 4, pos := "shape.go:318", after := #[], guard := none }]
def r23 : List Oper := [{ dst := some 72, op := Op.move (Operand.tmp 12), type := 3, pos := "shape.go:320", after := #[], guard := none }, { dst := some 73, op := Op.binOp BinOp.add 3 (Operand.tmp 72) (Operand.const (Value.int IntKind.i64 1)) 3, type := 3, pos := "shape.go:320", after := #[{ on := 0, ground := Ground.data }], guard := none }, { dst := some 12, op := Op.assign (Operand.tmp 73), type := 3, pos := "shape.go:320", after := #[{ on := 1, ground := Ground.data }, { on := 0, ground := Ground.phase }, { on := 1, ground := Ground.phase }], guard := none }]
def r24 : List Oper := [{ dst := some 74, op := Op.binOp BinOp.add 3 (Operand.tmp 42) (Operand.const (Value.int IntKind.i64 1)) 3, type := 3, pos := "shape.go:314", after := #[], guard := none }, { dst := some 42, op := Op.move (Operand.tmp 74), type := 3, pos := "shape.go:314", after := #[{ on := 0, ground := Ground.data }], guard := none }]
def r25 : List Oper := [{ dst := some 75, op := Op.load 33 (Operand.tmp 7), type := 33, pos := "shape.go:325", after := #[], guard := none }, { dst := none, op := Op.store 33 (Operand.tmp 4) (Operand.tmp 75), type := 0, pos := "shape.go:325", after := #[{ on := 0, ground := Ground.data }, { on := 0, ground := Ground.phase }], guard := none }, { dst := some 5, op := Op.assign (Operand.const Value.nilIface), type := 28, pos := "shape.go:325", after := #[{ on := 1, ground := Ground.chain }, { on := 0, ground := Ground.phase }, { on := 1, ground := Ground.phase }], guard := none }]
abbrev cd (n : Nat) (L : List Oper) : Code := .region n ⟨L⟩ false
abbrev LLT : Ty := .list (.list SpT)
structure TS (w0 : World) (outs : Shp.Arcs) (w : World) : Prop where
  b : Below w0.heap.size w0 w
  th : ∃ hdr hs bs, ThW w0.heap.size w w0.heap.size hdr hs bs outs
abbrev ptr7 (w0 : World) : Value := .pointer (some ⟨w0.heap.size, 0, none⟩)
def L1 : Code := (cd 8 r8).seq ((Code.cond (.tmp 27) .skip (.exit 0)).seq ((Code.block 1 ((cd 9 r9).seq (.region 10 ops10.toArray true))).seq (cd 11 r11)))
/-- a list's values -/
theorem arc_at {G : List (Nat × Value)} {w0 : World} {m : Shp.Arcs} {hm : Value} (h : Rel (Cx.start G w0) (.fz LLT m) hm) {i : Nat} (hi : i < m.length) {w : World} (hB : Below w0.heap.size w0 w) :
    ∃ b off cap h, hm = .slice (some ⟨b, off, none⟩) m.length cap ∧ (Instr.indexAt 31 hm (.int .i64 (i : Int))).run Tryd.prog w = .ok (.pointer (some ⟨b, off + i, none⟩)) w ∧ (Instr.loadAt 44 (.pointer (some ⟨b, off + i, none⟩))).run Tryd.prog w = .ok h w ∧ Rel (Cx.start G w0) (.fz (.list SpT) (Shp.arc m i)) h := by
  unfold Rel at h
  obtain ⟨cs, ⟨p, cap, rfl, h1, h2⟩, hv⟩ := h
  have hv : hm = .slice p m.length cap := hv
  obtain ⟨b, off, ds, rfl, _, hb, h3, h4⟩ := h2 i hi
  subst hv
  have hd : ds.length = 1 := h3.len
  obtain ⟨d, rfl⟩ : ∃ d, ds = [d] := by
    match ds, hd with
    | [d], _ => exact ⟨d, rfl⟩
  have hc : w0.cell? ⟨b, off + i * 1 + 0, none⟩ = some d := h4 0 (by simp)
  rw [Nat.mul_one, Nat.add_zero] at hc
  have hc' : w.cell? ⟨b, off + i, none⟩ = some d := by rw [← hc]; unfold World.cell?; simp only; rw [hB.block b hb]
  refine ⟨b, off, cap, d, rfl, ?_, ?_, ?_⟩
  · simp [Instr.indexAt, asIntOf, run_underlying' und2, plain_add, hi]
  · have := run_loadVar (P := Tryd.prog) tabOk (w := w) (t := 44) (b := b) (o := off + i) (cs := [d]) (ag := false) (by decide +kernel) (show tsz tab 44 = 1 by decide +kernel) (by simp) (fun _ => rfl) (fun j hj => by
      have hj : j < 1 := hj
      obtain rfl : j = 0 := by omega
      exact hc')
    simp [Instr.loadAt, Instr.sureAddr, this]
  · unfold Rel
    have e : (m : List (List (Int × Int)))[i]'hi = Shp.arc m i := by unfold Shp.arc; rw [List.getD_eq_getElem?_getD, List.getElem?_eq_getElem hi]; rfl
    rw [← e]
    exact ⟨[d], h3, rfl⟩
theorem loop1 {G : List (Nat × Value)} {w0 : World} (H0 : HR (Cx.start G w0)) {m : Shp.Arcs} {hm v1 p4 : Value} (hmr : Rel (Cx.start G w0) (.fz LLT m) hm) (hl : m.length ≤ 60) (ha : ∀ i, i < m.length → 2 ≤ (Shp.arc m i).length ∧ (Shp.arc m i).length ≤ 4000)
    {a : Act} {w : World} (hR : RS 76 [(1, v1), (4, p4), (7, ptr7 w0), (24, hm), (25, .int .i64 (m.length : Nat)), (26, .int .i64 0)] a) (hT : TS w0 [] w) {Q : Exit → Act → World → Prop} (hQ : ∀ a w, RS 76 [(1, v1), (4, p4), (7, ptr7 w0)] a → TS w0 m w → Q .normal a w) :
    (Code.block 0 (.loop L1)).wp Tryd.prog Q a w := by
  refine wp_block (wp_loopI (ι := Nat) (fun i a w => i ≤ m.length ∧ RS 76 [(1, v1), (4, p4), (7, ptr7 w0), (24, hm), (25, .int .i64 (m.length : Nat)), (26, .int .i64 (i : Nat))] a ∧ TS w0 (m.take i) w) (fun i => m.length - i) 0 ⟨Nat.zero_le _, hR, hT⟩ fun i a w ⟨hi, hR, hT⟩ => ?_)
  refine wp_seq (rs_region ?_)
  refine rs_val (.bool (decide ((i : Int) < (m.length : Nat)))) w hR rfl rfl rfl rfl (by simp [execOp, hR.get 26 rfl, hR.get 25 rfl, eqGuard, lss_run]) fun a hR => ?_
  show (Code.seq _ _).wp _ _ _ _
  refine wp_seq (wp_cond (hR.get 27 rfl) ?_)
  by_cases h : i < m.length
  · rw [decide_eq_true (by omega), if_pos rfl]
    refine wp_skip ?_
    show (Code.seq _ _).wp _ _ _ _
    refine wp_seq (wp_block (wp_seq (rs_region ?_)))
    obtain ⟨b, off, cap, h', q1, q2, q3, q4⟩ := arc_at hmr h hT.b
    refine rs_val (.pointer (some ⟨b, off + i, none⟩)) w hR rfl rfl rfl rfl (by simp [execOp, hR.get 24 rfl, hR.get 26 rfl, q2]) fun a hR => ?_
    refine rs_val h' w hR rfl rfl rfl rfl (by simp [execOp, hR.get 28 rfl, q3]) fun a hR => ?_
    refine rs_val h' w hR rfl rfl rfl rfl (by simp [execOp, hR.get 29 rfl]) fun a hR => ?_
    show (Code.region 10 ops10.toArray true).wp _ _ _ _
    obtain ⟨hdr, hs, bs, hT2⟩ := hT.th
    have D : DS G 76 [] a w := ⟨hr_start H0 hT.b.block, fun n => rel_unk, hR.d, hR.n⟩
    have hm2 := ha i h
    have h9 : Rel (Cx.start G w) (.fz (.list SpT) (Shp.arc m i)) (a.tmps.getD 9 undef) := by
      have e : a.tmps.getD 9 undef = h' := hR.get 9 rfl
      rw [e]
      exact rel_keep hT.b.block q4
    refine region10 D h9 (hR.get 7 rfl) hT.b.size hT2 (by rw [List.length_take]; omega) (by omega) (by omega) fun a' w' hdr' hs' bs' hT3 hst hsz hold hsl hdf hsize => ?_
    show (cd 11 r11).wp _ _ _ _
    have hR' : RS 76 [(1, v1), (4, p4), (7, ptr7 w0), (24, hm), (25, .int .i64 (m.length : Nat)), (26, .int .i64 (i : Nat))] a' := hR.keep ⟨rfl, rfl, rfl, rfl, rfl, rfl, trivial⟩ (fun p hp => by
      simp only [List.mem_cons, List.not_mem_nil, or_false] at hp
      rcases hp with rfl | rfl | rfl | rfl | rfl | rfl <;> exact hsl _ (by simp)) hdf hsize
    refine rs_region ?_
    refine rs_val (.int .i64 (i + 1 : Nat)) w' hR' rfl rfl rfl rfl (by simp [execOp, hR'.get 26 rfl, show a'.eval (.const (.int .i64 1)) = .int .i64 1 from rfl, eqGuard, add_run (P := Tryd.prog) (w := w') (t := 3) (x := (i : Int)) (y := 1) (by omega) (by omega)]) fun a hR => ?_
    refine rs_val (.int .i64 (i + 1 : Nat)) w' hR rfl rfl rfl rfl (by simp [execOp, hR.get 37 rfl]) fun a hR => ?_
    refine ⟨i + 1, by omega, by omega, hR.sub ⟨rfl, rfl, rfl, rfl, rfl, rfl, trivial⟩, ⟨⟨hst.os.trans hT.b.os, hst.tape.trans hT.b.tape, hst.output.trans hT.b.output, Nat.le_trans hT.b.size hsz, fun k hk => (hold k hk).trans (hT.b.block k hk)⟩, hdr', hs', bs', ?_⟩⟩
    have e : m.take (i + 1) = m.take i ++ [Shp.arc m i] := by
      rw [List.take_add_one]
      congr 1
      unfold Shp.arc
      rw [List.getD_eq_getElem?_getD, List.getElem?_eq_getElem h]; rfl
    rw [e]
    exact hT3
  · rw [decide_eq_false (by omega), if_neg (by decide)]
    refine wp_exit ?_
    refine hQ a w (hR.sub ⟨rfl, rfl, rfl, trivial⟩) ?_
    rw [List.take_of_length_le (by omega)] at hT
    exact hT
end thin
end Go.Proofs.YtcfalmdfohphoaaDoor
/-
  Nothing of errors' codes here.
-/
namespace Go.Proofs.YtcfalmdfohphoaaDoor
end Go.Proofs.YtcfalmdfohphoaaDoor
/-
  Is a map valid: the walk.
-/
namespace Go.Proofs.YtcfalmdfohphoaaDoor
open Go Go.Ab Mp
set_option maxRecDepth 100000
def ngB (p : Int × Int) : Bool := !plB p
theorem MB_of {m : Shp.Arcs} (h1 : m.length ≤ 60) (h2 : Shp.tot m m.length ≤ 4000) (h3 : ∀ i, i < m.length → Shp.badA ngB (Shp.arc m i) = false) : MB m := by
  refine ⟨by omega, fun i hi => ((Shp.badA_iff _ _).1 (h3 i hi)).1, fun i hi => by have := Shp.len_tot hi; omega, fun i t ⟨hi, ht⟩ => ?_⟩
  have := ((Shp.badA_iff _ _).1 (h3 i hi)).2.1 t ht
  unfold ngB at this
  exact (Bool.not_eq_false' (plB (Shp.pt m i t))).mp this
set_option maxHeartbeats 4000000 in
theorem valid_any (E : Errs) (m : Shp.Arcs) (hl : m.length ≤ 1000000000000000) (hlen : ∀ i, i < m.length → (Shp.arc m i).length ≤ 8796093022208) (K : AV → List AO → Prop) (hK : K (.fz .raw (er E (Shp.vE ngB m))) []) : ACall Tryd.prog (G8 E) 17 [.fz MpT m] [] K := by
  have hat : ∀ i : Nat, List.getD m (Int.toNat (i : Int)) SpT.list.dft = Shp.arc m i := fun i => rfl
  refine acall_mk (E := envAt (G8 E) 151 0) (envOk _ _ _) Tryd.func17 rfl rfl rfl rfl rfl ?_
  (repeat' (first | exact trivial | refine And.intro ?_ ?_ | (intro hb; try simp at hb) | omega | exact rfl | refine aRegion_auto (by decide +kernel) ?_ | fail))
  refine ⟨Nat, fun i => ⟨[(1, .ptr 0 0), (3, .fz int (wr (Shp.tot m i))), (21, .fz (.list (.list SpT)) m), (22, .fz int m.length), (23, .fz int i), (1000003, .unk)], [.box [.fz (.list (.list SpT)) m]]⟩, fun i => i ≤ m.length, fun i => m.length - i, 0, Nat.zero_le _, Ent.sub ?_ ?_, ?_⟩
  · (repeat' (first | exact rfl | refine cons_eq ?_ ?_))
  · (repeat' (first | exact trivial | exact rfl | refine And.intro ?_ ?_))
  intro i hi
  have hi : i ≤ m.length := hi
  have htf := Shp.tot_full hi
  obtain ⟨n, hn⟩ : ∃ n, Shp.tot m i = n := ⟨_, rfl⟩
  show awp _ _ _ ⟨[(1, .ptr 0 0), (3, .fz int (wr (Shp.tot m i))), (21, .fz (.list (.list SpT)) m), (22, .fz int m.length), (23, .fz int i), (1000003, .unk)], [.box [.fz (.list (.list SpT)) m]]⟩
  rw [hn] at htf ⊢
  by_cases hil : i < m.length
  · obtain ⟨a, ha⟩ : ∃ a, Shp.arc m i = a := ⟨_, rfl⟩
    have hg := hat i
    have hal := hlen i hil
    have hnx := Shp.tot_next hil
    rw [ha] at hg hal hnx
    rw [hn] at hnx
    (repeat' (first | exact trivial | refine And.intro ?_ ?_ | (intro hb; try simp at hb) | omega | exact rfl | refine aRegion_auto (by decide +kernel) ?_ | fail))
    rw [hg]
    (repeat' (first | exact trivial | refine And.intro ?_ ?_ | (intro hb; try simp at hb) | omega | exact rfl | refine aRegion_auto (by decide +kernel) ?_ | fail))
    refine aact_addW (a := wr n) (b := (a.length : Int)) rfl rfl ?_
    rw [wr_add, ← hnx]
    (repeat' (first | exact trivial | refine And.intro ?_ ?_ | (intro hb; try simp at hb) | omega | exact rfl | refine aRegion_auto (by decide +kernel) ?_ | fail))
    refine aact_addW (a := (i : Int)) (b := 1) rfl rfl ?_
    rw [show IntKind.i64.wrap ((i : Int) + 1) = (i : Int) + 1 from I64.wrap (by unfold I64; omega)]
    (repeat' (first | exact trivial | refine And.intro ?_ ?_ | (intro hb; try simp at hb) | omega | exact rfl | refine aRegion_auto (by decide +kernel) ?_ | fail))
    refine ⟨i + 1, by show i + 1 ≤ m.length; omega, by show m.length - (i + 1) < m.length - i; omega, Ent.sub rfl ?_⟩
    · (repeat' (first | exact trivial | exact rfl | refine And.intro ?_ ?_))
  · obtain rfl : i = m.length := by omega
    by_cases hB : 60 < m.length ∨ 4000 < Shp.tot m m.length
    · have e := Shp.vE_bound (g := ngB) hB
      rw [e] at hK
      by_cases h60 : 60 < m.length
      · (repeat' (first | exact trivial | exact fun h => h | refine And.intro ?_ ?_ | (intro hb; try simp at hb) | omega | exact rfl | exact Nat.le_refl _ | (show _ + 1 ≤ 4294967296; omega) | (show _ + 1 ≤ 5864062014634; omega) | (dsimp only; omega) | (show (_ : Int) ≤ (_ : Int); omega) | (show _ < List.length _; simp only [List.length_set, List.length_append, List.length_take]; omega) | (show wantB _ _ = true; simp <;> omega) | (show (_ : Bool) = _; simp_all; done) | (exfalso; omega) | refine aRegion_auto (by decide +kernel) ?_ | refine ⟨_, _, REnt.drop ⟨rfl, rfl⟩, ?_⟩ | fail))
        exact hK
      · have hs := Shp.tot_wr hlen (by omega)
        rw [hn] at hB hs
        have hB := hB.resolve_left h60
        rw [hs]
        (repeat' (first | exact trivial | exact fun h => h | refine And.intro ?_ ?_ | (intro hb; try simp at hb) | omega | exact rfl | exact Nat.le_refl _ | (show _ + 1 ≤ 4294967296; omega) | (show _ + 1 ≤ 5864062014634; omega) | (dsimp only; omega) | (show (_ : Int) ≤ (_ : Int); omega) | (show _ < List.length _; simp only [List.length_set, List.length_append, List.length_take]; omega) | (show wantB _ _ = true; simp <;> omega) | (show (_ : Bool) = _; simp_all; done) | (exfalso; omega) | refine aRegion_auto (by decide +kernel) ?_ | refine ⟨_, _, REnt.drop ⟨rfl, rfl⟩, ?_⟩ | fail))
        exact hK
    · have hfew : m.length ≤ 60 := by omega
      have htt : Shp.tot m m.length ≤ 4000 := by omega
      have hl4 : ∀ i, i < m.length → (Shp.arc m i).length ≤ 4000 := fun i hi => by have := Shp.len_tot hi; omega
      have hs := Shp.tot_wr hlen (by omega)
      rw [hn] at hs htt
      rw [hs]
      (repeat' (first | exact trivial | exact fun h => h | refine And.intro ?_ ?_ | (intro hb; try simp at hb) | omega | exact rfl | exact Nat.le_refl _ | (show _ + 1 ≤ 4294967296; omega) | (show _ + 1 ≤ 5864062014634; omega) | (dsimp only; omega) | (show (_ : Int) ≤ (_ : Int); omega) | (show _ < List.length _; simp only [List.length_set, List.length_append, List.length_take]; omega) | (show wantB _ _ = true; simp <;> omega) | (show (_ : Bool) = _; simp_all; done) | (exfalso; omega) | refine aRegion_auto (by decide +kernel) ?_ | fail))
      rw [← hn] at htt
      refine ⟨Nat, fun i => ⟨[(1, .ptr 0 0), (42, .fz (.list (.list SpT)) m), (43, .fz int m.length), (44, .fz int i)], [.box [.fz (.list (.list SpT)) m]]⟩, fun i => i ≤ m.length ∧ ∀ j, j < i → Shp.badA ngB (Shp.arc m j) = false, fun i => m.length - i, 0, ⟨Nat.zero_le _, fun j h => absurd h (Nat.not_lt_zero _)⟩, Ent.sub rfl ?_, ?_⟩
      · (repeat' (first | exact trivial | exact rfl | refine And.intro ?_ ?_))
      intro i ⟨hi, hbad⟩
      have hi : i ≤ m.length := hi
      have hbad : ∀ j, j < i → Shp.badA ngB (Shp.arc m j) = false := hbad
      show awp _ _ _ ⟨[(1, .ptr 0 0), (42, .fz (.list (.list SpT)) m), (43, .fz int m.length), (44, .fz int i)], [.box [.fz (.list (.list SpT)) m]]⟩
      by_cases hil : i < m.length
      · obtain ⟨a, ha⟩ : ∃ a, Shp.arc m i = a := ⟨_, rfl⟩
        have hg := hat i
        have hal := hl4 i hil
        rw [ha] at hg hal
        have hgo : Shp.badA ngB a = false → ∀ j, j < i + 1 → Shp.badA ngB (Shp.arc m j) = false := fun h j hj => by
          by_cases c : j = i
          · rw [c, ha]; exact h
          · exact hbad j (by omega)
        have hno : Shp.badA ngB a = true → K (.fz .raw (er E 3)) [] := fun h => by
          rw [Shp.vE_shape hB ⟨i, hil, by rw [ha]; exact h⟩] at hK
          exact hK
        (repeat' (first | exact trivial | exact fun h => h | refine And.intro ?_ ?_ | (intro hb; try simp at hb) | omega | exact rfl | exact Nat.le_refl _ | (show _ + 1 ≤ 4294967296; omega) | (show _ + 1 ≤ 5864062014634; omega) | (dsimp only; omega) | (show (_ : Int) ≤ (_ : Int); omega) | (show _ < List.length _; simp only [List.length_set, List.length_append, List.length_take]; omega) | (show wantB _ _ = true; simp <;> omega) | (show (_ : Bool) = _; simp_all; done) | (exfalso; omega) | fail))
        rw [hg]
        (repeat' (first | exact trivial | refine And.intro ?_ ?_ | (intro hb; try simp at hb) | omega | exact rfl | fail))
        by_cases h2 : a.length < 2
        · have hbd : Shp.badA ngB a = true := by unfold Shp.badA; rw [decide_eq_true h2]; rfl
          have hK3 := hno hbd
          refine aRegion_auto (by decide +kernel) ?_
          (repeat' (first | exact trivial | refine And.intro ?_ ?_ | (intro hb; try simp at hb) | omega | exact rfl | fail))
          apply exEff
          · refine ⟨fun h => absurd h (by simp; omega), fun _ => ⟨rfl, rfl⟩⟩
          (repeat' (first | exact trivial | refine And.intro ?_ ?_ | (intro hb; try simp at hb) | omega | exact rfl | fail))
          any_goals (exact decide_eq_true (by omega))
          apply exEff
          · refine ⟨fun h => absurd h (by simp), fun _ => ⟨rfl, rfl⟩⟩
          (repeat' (first | exact trivial | refine And.intro ?_ ?_ | (intro hb; try simp at hb) | omega | exact rfl | fail))
          apply exEff
          · refine ⟨fun h => absurd h (by simp), fun _ => ⟨rfl, rfl⟩⟩
          (repeat' (first | exact trivial | refine And.intro ?_ ?_ | (intro hb; try simp at hb) | omega | exact rfl | refine aRegion_auto (by decide +kernel) ?_ | refine ⟨_, _, REnt.drop ⟨rfl, rfl⟩, ?_⟩ | fail))
          exact hK3
        · have hc0 := containsFuncS_any (G8 E) a 36 (fun p => !plB p) (great_any _) (by omega)
          have hne : a ≠ [] := fun e => h2 (by rw [e]; exact (by decide : 0 < 2))
          obtain ⟨g, hg0⟩ : ∃ g, a.any ngB = g := ⟨_, rfl⟩
          have hc1 : ∀ K : AV → List AO → Prop, K (.fz .bool g) [] → ACall Tryd.prog (G8 E) 35 [.fz (.list SpT) a, .fn 36 []] [] K := fun K h => hc0 K (by
            show K (.fz .bool (a.any ngB)) []
            rw [hg0]; exact h)
          refine aRegion_auto (by decide +kernel) ?_
          (repeat' (first | exact trivial | exact fun h => h | refine And.intro ?_ ?_ | (intro hb; try simp at hb) | omega | exact rfl | exact Nat.le_refl _ | (show _ + 1 ≤ 4294967296; omega) | (show _ + 1 ≤ 5864062014634; omega) | (dsimp only; omega) | (show (_ : Int) ≤ (_ : Int); omega) | (show _ < List.length _; simp only [List.length_set, List.length_append, List.length_take]; omega) | (show wantB _ _ = true; simp <;> omega) | (show (_ : Bool) = _; simp_all; done) | (exfalso; omega) | fail))
          apply exEff
          · refine ⟨fun _ => ?_, fun h => absurd h (by simp; omega)⟩
            (repeat' (first | refine And.intro ?_ ?_ | (show wantB _ _ = true; simp; omega)))
            refine acall_frame0 rfl (hc1 _ ?_)
            exact ⟨rfl, rfl⟩
          (repeat' (first | exact trivial | exact fun h => h | refine And.intro ?_ ?_ | (intro hb; try simp at hb) | omega | exact rfl | exact Nat.le_refl _ | (show _ + 1 ≤ 4294967296; omega) | (show _ + 1 ≤ 5864062014634; omega) | (dsimp only; omega) | (show (_ : Int) ≤ (_ : Int); omega) | (show _ < List.length _; simp only [List.length_set, List.length_append, List.length_take]; omega) | (show wantB _ _ = true; simp <;> omega) | (show (_ : Bool) = _; simp_all; done) | (exfalso; omega) | fail))
          cases g with
          | true =>
            apply exEff
            · refine ⟨fun h => absurd h (by simp), fun _ => ⟨rfl, rfl⟩⟩
            (repeat' (first | exact trivial | refine And.intro ?_ ?_ | (intro hb; try simp at hb) | omega | exact rfl | fail))
            apply exEff
            · refine ⟨fun h => absurd h (by simp), fun _ => ⟨rfl, rfl⟩⟩
            have hK3 := hno (by unfold Shp.badA; rw [hg0]; simp)
            (repeat' (first | exact trivial | exact fun h => h | refine And.intro ?_ ?_ | (intro hb; try simp at hb) | omega | exact rfl | exact Nat.le_refl _ | (show _ + 1 ≤ 4294967296; omega) | (show _ + 1 ≤ 5864062014634; omega) | (dsimp only; omega) | (show (_ : Int) ≤ (_ : Int); omega) | (show _ < List.length _; simp only [List.length_set, List.length_append, List.length_take]; omega) | (show wantB _ _ = true; simp <;> omega) | (show (_ : Bool) = _; simp_all; done) | (exfalso; omega) | refine aRegion_auto (by decide +kernel) ?_ | refine ⟨_, _, REnt.drop ⟨rfl, rfl⟩, ?_⟩ | fail))
            exact hK3
          | false =>
            have e2 : decide ((a.length : Int) < 2) = false := decide_eq_false (by omega)
            have hq : eqL ([(List.getD a (Int.toNat 0) SpT.dft).fst] ++ [(List.getD a (Int.toNat 0) SpT.dft).snd]) ([(List.getD a ((a.length : Int) - 1).toNat SpT.dft).fst] ++ [(List.getD a ((a.length : Int) - 1).toNat SpT.dft).snd]) = decide (Shp.at_ a 0 = Shp.at_ a (a.length - 1)) := by
              rw [show ((a.length : Int) - 1).toNat = a.length - 1 by omega]
              exact eqS _ _
            have e4 : decide ((a.length : Int) < 4) = decide (a.length < 4) := decide_eq_decide.2 (by omega)
            have hcE : ∀ c1 c4 : Bool, decide (Shp.at_ a 0 = Shp.at_ a (a.length - 1)) = c1 → decide (a.length < 4) = c4 → Shp.badA ngB a = ((c1 && c4) || decide (Shp.twin a)) := fun c1 c4 h1 h4 => by
              unfold Shp.badA
              rw [hg0, h1, h4, decide_eq_false h2]
              rfl
            obtain ⟨n2, hn2⟩ : ∃ n2, (cmpF a).1 = n2 := ⟨_, rfl⟩
            obtain ⟨ct1, ct2⟩ := cmpF_lt (a := a)
            rw [hn2] at ct1 ct2
            rw [e2, hq, e4]
            generalize hc1' : decide (Shp.at_ a 0 = Shp.at_ a (a.length - 1)) = c1
            generalize hc4' : decide (a.length < 4) = c4
            have hbd := hcE c1 c4 hc1' hc4'
            by_cases hcc : (c1 && c4) = true
            · rw [hcc, Bool.true_or] at hbd
              have hK3 := hno hbd
              rw [Bool.and_eq_true] at hcc
              obtain ⟨rfl, rfl⟩ := hcc
              apply exEff
              · refine ⟨fun h => absurd h (by simp), fun _ => ⟨rfl, rfl⟩⟩
              (repeat' (first | exact trivial | refine And.intro ?_ ?_ | (intro hb; try simp at hb) | omega | exact rfl | fail))
              apply exEff
              · refine ⟨fun h => absurd h (by simp), fun _ => ⟨rfl, rfl⟩⟩
              (repeat' (first | exact trivial | refine And.intro ?_ ?_ | (intro hb; try simp at hb) | omega | exact rfl | refine aRegion_auto (by decide +kernel) ?_ | refine ⟨_, _, REnt.drop ⟨rfl, rfl⟩, ?_⟩ | fail))
              exact hK3
            · have hcf : (c1 && c4) = false := Bool.eq_false_iff.2 hcc
              rw [hcf, Bool.false_or] at hbd
              cases c1 <;> cases c4
              any_goals (exact absurd rfl hcc)
              all_goals
                apply exEff
                · refine ⟨fun _ => ?_, fun h => absurd h (by simp)⟩
                  (repeat' (first | refine And.intro ?_ ?_ | (show wantB _ _ = true; simp)))
                  refine acall_frame0 rfl (cloneS_any _ a (by omega) (by omega) _ ?_)
                  exact ⟨rfl, rfl⟩
                (repeat' (first | exact trivial | refine And.intro ?_ ?_ | (intro hb; try simp at hb) | omega | exact rfl | fail))
                apply exEff
                · refine ⟨fun _ => ?_, fun h => absurd h (by simp)⟩
                  (repeat' (first | refine And.intro ?_ ?_ | (show wantB _ _ = true; simp)))
                  refine acall_frame [2] [.row SpT a] [.ref 0 0 a.length] rfl (by repeat' (first | exact rfl | exact trivial | refine And.intro ?_ ?_)) ⟨rfl, rfl⟩ rfl (compactS_any _ a (by omega) (by omega) _ ?_)
                  rw [hn2]
                  exact ⟨rfl, rfl⟩
                by_cases htw : Shp.twin a
                · have hlt := ct1.2 htw
                  rw [decide_eq_true htw] at hbd
                  have hK3 := hno hbd
                  (repeat' (first | exact trivial | refine And.intro ?_ ?_ | (intro hb; try simp at hb) | omega | exact rfl | refine aRegion_auto (by decide +kernel) ?_ | refine ⟨_, _, REnt.drop ⟨rfl, rfl⟩, ?_⟩ | fail))
                  exact hK3
                · have hge : ¬ n2 < a.length := fun h => htw (ct1.1 h)
                  rw [decide_eq_false htw] at hbd
                  have hgo2 := hgo hbd
                  (repeat' (first | exact trivial | refine And.intro ?_ ?_ | (intro hb; try simp at hb) | omega | exact rfl | fail))
                  refine ⟨i + 1, ⟨by show i + 1 ≤ m.length; omega, hgo2⟩, by show m.length - (i + 1) < m.length - i; omega, Ent.ren [0] rfl ?_ ?_⟩
                  · (repeat' (first | exact trivial | exact rfl | refine And.intro ?_ ?_))
                  · (repeat' (first | exact trivial | exact rfl | refine And.intro ?_ ?_))
      · obtain rfl : i = m.length := by omega
        have B := MB_of hfew htt hbad
        (repeat' (first | exact trivial | refine And.intro ?_ ?_ | (intro hb; try simp at hb) | omega | exact rfl | fail))
        refine aact_make fun bm => ?_
        (repeat' (first | exact trivial | refine And.intro ?_ ?_ | (intro hb; try simp at hb) | omega | exact rfl | fail))
        refine ⟨Nat × Nat × CnS, fun x => ⟨[(1, .ptr 0 0), (8, .ptr 2 0), (85, .fz (.list (.list SpT)) m), (86, .fz int m.length), (87, .fz int x.1)], [.box [.fz (.list (.list SpT)) m], cnO bm x.2.1 x.2.2, .box [.ptr 1 0]]⟩, fun x => x.1 ≤ m.length ∧ MO spG x.2.1 x.2.2 ∧ ∀ p, gv x.2.2 p 0 = ((m.take x.1).flatten.count p : Nat), fun x => m.length - x.1, (0, 0, []), ⟨Nat.zero_le _, MO.nil, fun p => by simp [gv]⟩, Ent.sub rfl ?_, ?_⟩
        · (repeat' (first | exact trivial | exact rfl | refine And.intro ?_ ?_))
        rintro ⟨i, clk, S⟩ ⟨hi, hM, hC⟩
        have hi : i ≤ m.length := hi
        have hM : MO spG clk S := hM
        have hC : ∀ p, gv S p 0 = ((m.take i).flatten.count p : Nat) := hC
        show awp _ _ _ ⟨[(1, .ptr 0 0), (8, .ptr 2 0), (85, .fz (.list (.list SpT)) m), (86, .fz int m.length), (87, .fz int i)], [.box [.fz (.list (.list SpT)) m], cnO bm clk S, .box [.ptr 1 0]]⟩
        by_cases hil : i < m.length
        · obtain ⟨a, ha⟩ : ∃ a, Shp.arc m i = a := ⟨_, rfl⟩
          have hg := hat i
          have hal := hl4 i hil
          rw [ha] at hg hal
          have hfl : (m.take (i + 1)).flatten = (m.take i).flatten ++ a := by
            rw [List.take_add_one, List.getElem?_eq_getElem hil, List.flatten_append]
            have : m[i] = a := by rw [← ha]; unfold Shp.arc; rw [List.getD_eq_getElem?_getD, List.getElem?_eq_getElem hil]; rfl
            rw [this]; simp
          have hfn : (m.take i).flatten.length ≤ 10000 := by
            rw [List.length_flatten]
            have := Shp.tot_full (m := m) (i := i) (by omega)
            unfold Shp.tot at this
            have h2 : ((m.take m.length).map List.length).sum ≤ 4000 := htt
            omega
          obtain ⟨F, hF⟩ : ∃ F, (m.take i).flatten = F := ⟨_, rfl⟩
          rw [hF] at hC hfl hfn
          (repeat' (first | exact trivial | refine And.intro ?_ ?_ | (intro hb; try simp at hb) | omega | exact rfl | fail))
          rw [hg]
          (repeat' (first | exact trivial | refine And.intro ?_ ?_ | (intro hb; try simp at hb) | omega | exact rfl | fail))
          refine ⟨Nat × Nat × CnS, fun x => ⟨[(1, .ptr 0 0), (8, .ptr 2 0), (85, .fz (.list (.list SpT)) m), (86, .fz int m.length), (87, .fz int i), (91, .fz (.list SpT) a), (92, .fz int a.length), (93, .fz int x.1)], [.box [.fz (.list (.list SpT)) m], cnO bm x.2.1 x.2.2, .box [.ptr 1 0]]⟩, fun x => x.1 ≤ a.length ∧ MO spG x.2.1 x.2.2 ∧ ∀ p, gv x.2.2 p 0 = ((F ++ a.take x.1).count p : Nat), fun x => a.length - x.1, (0, clk, S), ⟨Nat.zero_le _, hM, fun p => by rw [List.take_zero, List.append_nil]; exact hC p⟩, Ent.sub rfl ?_, ?_⟩
          · (repeat' (first | exact trivial | exact rfl | refine And.intro ?_ ?_))
          rintro ⟨k, clk, S⟩ ⟨hk, hM, hC⟩
          have hk : k ≤ a.length := hk
          have hM : MO spG clk S := hM
          have hC : ∀ p, gv S p 0 = ((F ++ a.take k).count p : Nat) := hC
          show awp _ _ _ ⟨[(1, .ptr 0 0), (8, .ptr 2 0), (85, .fz (.list (.list SpT)) m), (86, .fz int m.length), (87, .fz int i), (91, .fz (.list SpT) a), (92, .fz int a.length), (93, .fz int k)], [.box [.fz (.list (.list SpT)) m], cnO bm clk S, .box [.ptr 1 0]]⟩
          by_cases hka : k < a.length
          · obtain ⟨p, hp⟩ : ∃ p, Shp.at_ a k = p := ⟨_, rfl⟩
            have hgp : List.getD a (Int.toNat (k : Int)) SpT.dft = p := hp
            have hpG : spG p := spG_of (by
              have := B.pl i k ⟨hil, by rw [ha]; exact hka⟩
              unfold Shp.pt at this
              rw [ha, hp] at this; exact this)
            have hpx : a[k] = p := by rw [← hp]; unfold Shp.at_; rw [List.getD_eq_getElem?_getD, List.getElem?_eq_getElem hka]; rfl
            have hgv : 0 ≤ gv S p 0 ∧ gv S p 0 ≤ 20000 := by
              rw [hC]
              have := List.count_le_length (a := p) (l := F ++ a.take k)
              rw [List.length_append, List.length_take] at this
              omega
            have hC2 : ∀ q, gv (pS S clk p (gv S p 0 + 1)) q 0 = ((F ++ a.take (k + 1)).count q : Nat) := fun q => by
              rw [gv_put hM, List.take_add_one, List.getElem?_eq_getElem hka, hpx]
              have h1 := hC q
              have h2 := hC p
              rw [List.count_append] at h1 h2 ⊢
              by_cases e : q = p
              · subst e
                rw [if_pos rfl, h1, List.count_append]
                simp
                omega
              · rw [if_neg e, h1, List.count_append]
                have : List.count q (some p).toList = 0 := by
                  rw [List.count_eq_zero]
                  simpa using e
                omega
            obtain ⟨v, hv⟩ : ∃ v, gv S p 0 = v := ⟨_, rfl⟩
            rw [hv] at hgv hC2
            (repeat' (first | exact trivial | refine And.intro ?_ ?_ | (intro hb; try simp at hb) | omega | exact rfl | fail))
            rw [hgp]
            (repeat' (first | exact trivial | refine And.intro ?_ ?_ | (intro hb; try simp at hb) | omega | exact rfl | fail))
            let A3 : List AO := [.box [.fz (.list (.list SpT)) m], cnO bm clk S, .box [.ptr 1 0], .box [.fz int p.1, .fz int p.2]]
            let A4 : List AO := [.box [.fz (.list (.list SpT)) m], cnO bm (cS S clk p) (uS S clk p 0), .box [.ptr 1 0], .box [.fz int p.1, .fz int p.2]]
            let A5 : List AO := [.box [.fz (.list (.list SpT)) m], cnO bm (cS S clk p) (pS S clk p (v + 1)), .box [.ptr 1 0], .box [.fz int p.1, .fz int p.2]]
            have hok : ∀ (clk' : Nat) (S' : CnS), OkA 4 [.box [.fz (.list (.list SpT)) m], cnO bm clk' S', .box [.ptr 1 0], .box [.fz int p.1, .fz int p.2]] := fun clk' S' o ho => by
              simp only [List.mem_cons, List.not_mem_nil, or_false] at ho
              rcases ho with rfl | rfl | rfl | rfl
              · rfl
              · exact cn_ok (bm := bm) (clk := clk')
              · rfl
              · rfl
            refine aRegion_open 0 (by decide +kernel) ?_
            (repeat' (first | exact trivial | refine And.intro ?_ ?_ | (intro hb; try simp at hb) | omega | exact rfl | refine aRegion_auto (by decide +kernel) ?_ | fail))
            refine eff_is (.fz int v) A3 ?_
            (repeat' (first | exact trivial | refine And.intro ?_ ?_ | (intro hb; try simp at hb) | omega | exact rfl | refine aRegion_auto (by decide +kernel) ?_ | fail))
            refine eff_is (.tup [.fz int v, .fz int (tS S clk p : Nat)]) A4 ?_
            (repeat' (first | exact trivial | refine And.intro ?_ ?_ | (intro hb; try simp at hb) | omega | exact rfl | refine aRegion_auto (by decide +kernel) ?_ | fail))
            refine eff_is .unk A5 ?_
            refine ⟨[(0, A3), (4, A3), (16, A4), (20, A4), (84, A5)], rfl, rfl, ?_, ?_⟩
            · (repeat' (first | refine And.intro ?_ ?_ | exact trivial | exact rfl | omega))
              · refine aact_lookG p (d := (0 : Int)) (tok := 1) (off := 0) (bm := bm) (clk := clk) (S := S) rfl rfl hM Tryd.underlying68 keyedS kvS_in spG_ok rel_kvS hpG zero_int ?_
                rw [hv]
                exact force_of _ _ _ (view_id (A := A3) (Nat.le_refl _) rfl (hok _ _))
              · refine aact_upG p (d := (0 : Int)) (tok := 1) (off := 0) (bm := bm) (clk := clk) (S := S) rfl rfl hM Tryd.underlying68 keyedS kvS_in spG_ok rel_kvS hpG zero_int ?_
                rw [hv]
                exact force_of _ _ _ (view_id (A := A4) (Nat.le_refl _) rfl (hok _ _))
              · refine aact_upG p (d := (0 : Int)) (tok := 1) (off := 0) (bm := bm) (clk := clk) (S := S) rfl rfl hM Tryd.underlying68 keyedS kvS_in spG_ok rel_kvS hpG zero_int ?_
                rw [hv]
                exact force_of _ _ _ (view_id (A := A4) (Nat.le_refl _) rfl (hok _ _))
              · refine aact_lookG p (d := (0 : Int)) (tok := 1) (off := 0) (bm := bm) (clk := cS S clk p) (S := uS S clk p 0) rfl rfl (hM.up hpG 0) Tryd.underlying68 keyedS kvS_in spG_ok rel_kvS hpG zero_int ?_
                rw [gv_up, hv]
                exact force_of _ _ _ (view_id (A := A4) (Nat.le_refl _) rfl (hok _ _))
              · refine aact_setG (a := p) (d := (0 : Int)) (v + 1) (tok := 1) (off := 0) (bm := bm) (clk := clk) (S := S) rfl rfl hM hpG (fun c w h => rel_int.1 h) rfl ?_
                exact force_of _ _ _ (view_id (A := A5) (Nat.le_refl _) rfl (hok _ _))
            · (repeat' (first | exact trivial | refine And.intro ?_ ?_ | (intro hb; try simp at hb) | omega | exact rfl | refine aRegion_auto (by decide +kernel) ?_ | fail))
              refine ⟨(k + 1, cS S clk p, pS S clk p (v + 1)), ⟨by show k + 1 ≤ a.length; omega, hM.put hpG _, hC2⟩, by show a.length - (k + 1) < a.length - k; omega, Ent.ren [0, 1, 2] rfl ?_ ?_⟩
              · (repeat' (first | exact trivial | exact rfl | refine And.intro ?_ ?_))
                · exact congrArg some (cn_same _).symm
                · exact cn_ok (bm := bm) (clk := cS S clk p)
              · (repeat' (first | exact trivial | exact rfl | refine And.intro ?_ ?_))
          · obtain rfl : k = a.length := by omega
            rw [List.take_length] at hC
            (repeat' (first | exact trivial | refine And.intro ?_ ?_ | (intro hb; try simp at hb) | omega | exact rfl | fail))
            refine ⟨(i + 1, clk, S), ⟨by show i + 1 ≤ m.length; omega, hM, fun p => by show gv S p 0 = ((m.take (i + 1)).flatten.count p : Nat); rw [hfl]; exact hC p⟩, by show m.length - (i + 1) < m.length - i; omega, Ent.sub rfl ?_⟩
            · (repeat' (first | exact trivial | exact rfl | refine And.intro ?_ ?_))
        · obtain rfl : i = m.length := by omega
          have hC : ∀ p, gv S p 0 = (m.flatten.count p : Nat) := fun p => by rw [hC, List.take_length]
          (repeat' (first | exact trivial | refine And.intro ?_ ?_ | (intro hb; try simp at hb) | omega | exact rfl | fail))
          refine ⟨Nat, fun i => ⟨[(1, .ptr 0 0), (8, .ptr 2 0), (106, .fz (.list (.list SpT)) m), (107, .fz int m.length), (108, .fz int i)], [.box [.fz (.list (.list SpT)) m], cnO bm clk S, .box [.ptr 1 0]]⟩, fun i => i ≤ m.length ∧ ∀ j, j < i → (Shp.inn (Shp.arc m j)).any (fun p => decide ((1 : Int) < (m.flatten.count p : Nat))) = false, fun i => m.length - i, 0, ⟨Nat.zero_le _, fun j h => absurd h (Nat.not_lt_zero _)⟩, Ent.sub rfl ?_, ?_⟩
          · (repeat' (first | exact trivial | exact rfl | refine And.intro ?_ ?_))
          intro i ⟨hi, hin⟩
          have hi : i ≤ m.length := hi
          have hin : ∀ j, j < i → (Shp.inn (Shp.arc m j)).any (fun p => decide ((1 : Int) < (m.flatten.count p : Nat))) = false := hin
          show awp _ _ _ ⟨[(1, .ptr 0 0), (8, .ptr 2 0), (106, .fz (.list (.list SpT)) m), (107, .fz int m.length), (108, .fz int i)], [.box [.fz (.list (.list SpT)) m], cnO bm clk S, .box [.ptr 1 0]]⟩
          by_cases hil : i < m.length
          · obtain ⟨a, ha⟩ : ∃ a, Shp.arc m i = a := ⟨_, rfl⟩
            have hg := hat i
            have hal := hl4 i hil
            have h2 := B.two i hil
            rw [ha] at hg hal h2
            (repeat' (first | exact trivial | refine And.intro ?_ ?_ | (intro hb; try simp at hb) | omega | exact rfl | fail))
            rw [hg]
            (repeat' (first | exact trivial | refine And.intro ?_ ?_ | (intro hb; try simp at hb) | omega | exact rfl | fail))
            any_goals (rw [hg]; omega)
            obtain ⟨w, hw⟩ : ∃ w, (Shp.inn a).any (fun p => decide ((1 : Int) < (m.flatten.count p : Nat))) = w := ⟨_, rfl⟩
            have hil2 := Shp.inn_len a
            refine acall_arg (containsV_lend _ m (Shp.inn a) bm clk S hM (fun p hp => ?_) (by omega) _ ?_) ?_
            · obtain ⟨t, ht, rfl⟩ := List.getElem_of_mem hp
              have hm : (Shp.inn a)[t] ∈ a := List.mem_of_mem_drop (List.mem_of_mem_take hp)
              obtain ⟨u, hu, e⟩ := List.getElem_of_mem hm
              rw [← e]
              refine spG_of ?_
              have := B.pl i u ⟨hil, by rw [ha]; exact hu⟩
              unfold Shp.pt Shp.at_ at this
              rw [ha, List.getD_eq_getElem?_getD, List.getElem?_eq_getElem hu] at this
              exact this
            · have hw2 : (Shp.inn a).any (fun p => decide (1 < gv S p 0)) = w := by
                rw [← hw]
                exact congrArg (fun f => (Shp.inn a).any f) (funext fun p => by rw [hC])
              rw [hw2]
              refine force_of _ _ _ ?_
              cases w with
              | true =>
                have hno : ¬ (Shp.noMeet m ∧ Shp.inOnce m) := fun ⟨_, h⟩ => by
                  have := Shp.inn_once.1 h i hil
                  rw [ha, hw] at this; cases this
                rw [Shp.vE_order hB hbad hno] at hK
                (repeat' (first | exact trivial | refine And.intro ?_ ?_ | (intro hb; try simp at hb) | omega | exact rfl | refine aRegion_auto (by decide +kernel) ?_ | refine ⟨_, _, REnt.drop ⟨rfl, rfl⟩, ?_⟩ | fail))
                exact hK
              | false =>
                (repeat' (first | exact trivial | refine And.intro ?_ ?_ | (intro hb; try simp at hb) | omega | exact rfl | fail))
                refine ⟨i + 1, ⟨by show i + 1 ≤ m.length; omega, fun j hj => ?_⟩, by show m.length - (i + 1) < m.length - i; omega, Ent.sub rfl ?_⟩
                · have hj : j < i + 1 := hj
                  by_cases c : j = i
                  · rw [c, ha]; exact hw
                  · exact hin j (by omega)
                · (repeat' (first | exact trivial | exact rfl | refine And.intro ?_ ?_))
            · refine congrArg (fun l => [AV.fz (.list SpT) l, .fn 38 [.ptr 2 0]]) (?_ : Shp.inn a = List.take ((((List.getD m (Int.toNat (i : Int)) SpT.list.dft).length : Int) - 1).toNat - (1 : Int).toNat) (List.drop (1 : Int).toNat (List.getD m (Int.toNat (i : Int)) SpT.list.dft)))
              rw [hg, show ((a.length : Int) - 1).toNat - (1 : Int).toNat = a.length - 2 by omega]
              rfl
          · obtain rfl : i = m.length := by omega
            have hio : Shp.inOnce m := Shp.inn_once.2 hin
            have hpl : ∀ x ∈ Shp.pcs m m.length, plB x.1 = true ∧ plB x.2.1 = true := fun x hx => by
              obtain ⟨j, n, a1, a2, rfl⟩ := (Shp.mem_pcs m.length).1 hx
              exact ⟨B.pl j n ⟨a1, by omega⟩, B.pl j (n + 1) ⟨a1, a2⟩⟩
            have hpn := Shp.pcs_no (m := m)
            have hpb := Shp.pcs_len (m := m) B.len m.length (Nat.le_refl _)
            have hnm : (¬ Shp.noMeet m) → K (.fz .raw (er E 7)) [] := fun h => by
              rw [Shp.vE_order hB hbad (fun h2 => h h2.1)] at hK
              exact hK
            have hym : Shp.noMeet m → K (.fz .raw (er E 0)) [] := fun h => by
              rw [Shp.vE_ok hB hbad ⟨h, hio⟩] at hK
              exact hK
            (repeat' (first | exact trivial | refine And.intro ?_ ?_ | (intro hb; try simp at hb) | omega | exact rfl | fail))
            refine acall_conv [.dat MpT] _ _ _ rfl trivial (acall_frame0 rfl (pieces_any _ m B _ ?_))
            obtain ⟨L, hL⟩ : ∃ L, Shp.pcs m m.length = L := ⟨_, rfl⟩
            rw [hL] at hpl hpn hpb ⊢
            have hLL : L.length ≤ 600000 := by omega
            (repeat' (first | exact trivial | refine And.intro ?_ ?_ | (intro hb; try simp at hb) | omega | exact rfl | fail))
            refine ⟨Nat, fun i => ⟨[(15, .fz (.list PcT) L), (123, .fz (.list PcT) L), (124, .fz int L.length), (125, .fz int i)], []⟩, fun i => i ≤ L.length ∧ ∀ j, j < i → ∀ k, j < k → k < L.length → Shp.apP (L.getD j PcT.dft) (L.getD k PcT.dft), fun i => L.length - i, 0, ⟨Nat.zero_le _, fun j h => absurd h (Nat.not_lt_zero _)⟩, Ent.ren [] rfl trivial ?_, ?_⟩
            · (repeat' (first | exact trivial | exact rfl | refine And.intro ?_ ?_))
            intro i ⟨hi, hap⟩
            have hi : i ≤ L.length := hi
            have hap : ∀ j, j < i → ∀ k, j < k → k < L.length → Shp.apP (L.getD j PcT.dft) (L.getD k PcT.dft) := hap
            show awp _ _ _ ⟨[(15, .fz (.list PcT) L), (123, .fz (.list PcT) L), (124, .fz int L.length), (125, .fz int i)], []⟩
            by_cases hil : i < L.length
            · obtain ⟨x, hx⟩ : ∃ x, List.getD L i PcT.dft = x := ⟨_, rfl⟩
              have hgx : List.getD L (Int.toNat (i : Int)) PcT.dft = x := hx
              (repeat' (first | exact trivial | refine And.intro ?_ ?_ | (intro hb; try simp at hb) | omega | exact rfl | fail))
              rw [hgx]
              (repeat' (first | exact trivial | refine And.intro ?_ ?_ | (intro hb; try simp at hb) | omega | exact rfl | fail))
              any_goals (first | exact Int.le_refl _ | (show (_ : Int) ≤ ((List.length L : Nat) : Int); omega))
              obtain ⟨R, hR⟩ : ∃ R, R = L.drop (i + 1) := ⟨_, rfl⟩
              have hRl : R.length = L.length - (i + 1) := by rw [hR, List.length_drop]
              refine ⟨Nat, fun k => ⟨[(15, .fz (.list PcT) L), (17, .ptr 0 0), (123, .fz (.list PcT) L), (124, .fz int L.length), (125, .fz int i), (133, .fz (.list PcT) R), (134, .fz int R.length), (135, .fz int k)], [.box [.fz int x.1.1, .fz int x.1.2, .fz int x.2.1.1, .fz int x.2.1.2, .fz int x.2.2.1, .fz int x.2.2.2]]⟩, fun k => k ≤ R.length ∧ ∀ j, j < k → Shp.apP x (R.getD j PcT.dft), fun k => R.length - k, 0, ⟨Nat.zero_le _, fun j h => absurd h (Nat.not_lt_zero _)⟩, Ent.sub ?_ ?_, ?_⟩
              · exact congrArg (fun x : Shp.Pc => [AO.box [.fz int x.1.1, .fz int x.1.2, .fz int x.2.1.1, .fz int x.2.1.2, .fz int x.2.2.1, .fz int x.2.2.2]]) hgx
              · have hRe : List.take (((L.length : Nat) : Int).toNat - ((i : Int) + 1).toNat) (List.drop ((i : Int) + 1).toNat L) = R := by
                  rw [hR, show ((i : Int) + 1).toNat = i + 1 by omega, Int.toNat_natCast]
                  exact List.take_of_length_le (by rw [List.length_drop]; exact Nat.le_refl _)
                (repeat' (first | exact trivial | exact rfl | refine And.intro ?_ ?_))
                · exact congrArg (fun l => AV.fz (.list PcT) l) hRe
                · exact congrArg (fun l : List Shp.Pc => AV.fz int l.length) hRe
              intro k ⟨hk, hak⟩
              have hk : k ≤ R.length := hk
              have hak : ∀ j, j < k → Shp.apP x (R.getD j PcT.dft) := hak
              show awp _ _ _ ⟨[(15, .fz (.list PcT) L), (17, .ptr 0 0), (123, .fz (.list PcT) L), (124, .fz int L.length), (125, .fz int i), (133, .fz (.list PcT) R), (134, .fz int R.length), (135, .fz int k)], [.box [.fz int x.1.1, .fz int x.1.2, .fz int x.2.1.1, .fz int x.2.1.2, .fz int x.2.2.1, .fz int x.2.2.2]]⟩
              have hRg : ∀ j, R.getD j PcT.dft = L.getD (i + 1 + j) PcT.dft := fun j => by
                rw [hR, List.getD_eq_getElem?_getD, List.getD_eq_getElem?_getD, List.getElem?_drop]
              by_cases hkR : k < R.length
              · obtain ⟨y, hy⟩ : ∃ y, List.getD R k PcT.dft = y := ⟨_, rfl⟩
                have hgy : List.getD R (Int.toNat (k : Int)) PcT.dft = y := hy
                have mem : ∀ j (hj : j < L.length), L.getD j PcT.dft ∈ L := fun j hj => by
                  rw [List.getD_eq_getElem?_getD, List.getElem?_eq_getElem hj]; exact List.getElem_mem hj
                have px := hpl x (hx ▸ mem i hil)
                have py := hpl y (by rw [← hy, hRg]; exact mem _ (by omega))
                obtain ⟨w, hw⟩ : ∃ w, Shp.meet x.1 x.2.1 y.1 y.2.1 = w := ⟨_, rfl⟩
                (repeat' (first | exact trivial | refine And.intro ?_ ?_ | (intro hb; try simp at hb) | omega | exact rfl | fail))
                rw [hgy]
                (repeat' (first | exact trivial | refine And.intro ?_ ?_ | (intro hb; try simp at hb) | omega | exact rfl | fail))
                refine acall_conv [.dat SpT, .dat SpT, .dat SpT, .dat SpT] _ _ _ rfl trivial (acall_frame0 rfl (meet_any _ x.1 x.2.1 y.1 y.2.1 px.1 px.2 py.1 py.2 _ ?_))
                rw [hw]
                cases w with
                | true =>
                  have hK7 := hnm fun h => by
                    have h2 := List.pairwise_iff_getElem.1 (hpn.2 h) i (i + 1 + k) hil (by omega) (by omega)
                    unfold Shp.apP at h2
                    have e1 : L[i] = x := by rw [← hx, List.getD_eq_getElem?_getD, List.getElem?_eq_getElem hil]; rfl
                    have e2 : L[i + 1 + k]'(by omega) = y := by rw [← hy, hRg, List.getD_eq_getElem?_getD, List.getElem?_eq_getElem (by omega)]; rfl
                    rw [e1, e2, hw] at h2; cases h2
                  (repeat' (first | exact trivial | refine And.intro ?_ ?_ | (intro hb; try simp at hb) | omega | exact rfl | refine aRegion_auto (by decide +kernel) ?_ | refine ⟨_, _, REnt.drop ⟨rfl, rfl⟩, ?_⟩ | fail))
                  exact hK7
                | false =>
                  (repeat' (first | exact trivial | refine And.intro ?_ ?_ | (intro hb; try simp at hb) | omega | exact rfl | fail))
                  refine ⟨k + 1, ⟨by show k + 1 ≤ R.length; omega, fun j hj => ?_⟩, by show R.length - (k + 1) < R.length - k; omega, Ent.ren [0] rfl ?_ ?_⟩
                  · have hj : j < k + 1 := hj
                    by_cases c : j = k
                    · rw [c, hy]; exact hw
                    · exact hak j (by omega)
                  · (repeat' (first | exact trivial | exact rfl | refine And.intro ?_ ?_))
                  · (repeat' (first | exact trivial | exact rfl | refine And.intro ?_ ?_))
              · obtain rfl : k = R.length := by omega
                (repeat' (first | exact trivial | refine And.intro ?_ ?_ | (intro hb; try simp at hb) | omega | exact rfl | fail))
                refine ⟨i + 1, ⟨by show i + 1 ≤ L.length; omega, fun j hj q hq hql => ?_⟩, by show L.length - (i + 1) < L.length - i; omega, Ent.ren [] rfl trivial ?_⟩
                · have hj : j < i + 1 := hj
                  by_cases c : j = i
                  · rw [c, hx]
                    have := hak (q - (i + 1)) (by omega)
                    rw [hRg, show i + 1 + (q - (i + 1)) = q by omega] at this
                    exact this
                  · exact hap j (by omega) q hq hql
                · (repeat' (first | exact trivial | exact rfl | refine And.intro ?_ ?_))
            · obtain rfl : i = L.length := by omega
              have hK0 := hym (hpn.1 (List.pairwise_iff_getElem.2 fun j k hj hk hjk => by
                have := hap j hj k hjk hk
                rwa [List.getD_eq_getElem?_getD, List.getD_eq_getElem?_getD, List.getElem?_eq_getElem hj, List.getElem?_eq_getElem hk] at this))
              (repeat' (first | exact trivial | refine And.intro ?_ ?_ | (intro hb; try simp at hb) | omega | exact rfl | refine aRegion_auto (by decide +kernel) ?_ | refine ⟨_, _, REnt.drop ⟨rfl, rfl⟩, ?_⟩ | fail))
              exact hK0
end Go.Proofs.YtcfalmdfohphoaaDoor
/-
  Thin, raw: the loops that leave points out.
-/
namespace Go.Proofs.YtcfalmdfohphoaaDoor
open Go Go.Ab Go.RowKit
set_option maxRecDepth 100000
namespace thin
/-- what the question is answered -/
def SpareC (G : List (Nat × Value)) (most : Int) : Prop := ∀ (o : Shp.Arcs) (i k : Nat), Shp.vE ngB o = 0 → i < o.length → 0 < k → k + 1 < (Shp.arc o i).length → ACall Tryd.prog G 31 [.fz MpT o, .fz int (i : Nat), .fz int (k : Nat), .fz int most] [] fun r _ => r = .fz .bool (Shp.spB most o i k)
theorem len_runA (w : World) (t : TypeId) (cs : Array Bool) (p : Option Addr) (n cap : Nat) : (builtin .len #[31] t cs #[.slice p n cap]).run Tryd.prog w = .ok (.value (.int .i64 (n : Nat))) w := by
  simp [builtin, Builtin.len_, run_underlying' und2, goInt]
theorem len_runB (w : World) (t : TypeId) (cs : Array Bool) (p : Option Addr) (n cap : Nat) : (builtin .len #[44] t cs #[.slice p n cap]).run Tryd.prog w = .ok (.value (.int .i64 (n : Nat))) w := by
  simp [builtin, Builtin.len_, run_underlying' delK.und, goInt]
def L4 : Code := ((cd 19 r19).seq (Code.cond (.tmp 53) .skip (.exit 6))).seq (.block 7 ((cd 20 r20).seq (Code.cond (.tmp 58) ((Code.region 21 ops21.toArray true).seq (cd 22 r22)) (cd 23 r23))))
def L3 : Code := (cd 16 r16).seq ((Code.cond (.tmp 43) .skip (.exit 4)).seq ((Code.block 5 ((cd 17 r17).seq ((cd 18 r18).seq (.block 6 (.loop L4))))).seq (cd 24 r24)))
def L2 : Code := ((cd 13 r13).seq (Code.cond (.tmp 38) .skip (.exit 2))).seq (.block 3 ((cd 14 r14).seq ((cd 15 r15).seq (.block 4 (.loop L3)))))
theorem TS.step {w0 w w' : World} {o : Shp.Arcs} (h : TS w0 o w) (hB : Below w.heap.size w w') : TS w0 o w' := by
  obtain ⟨hdr, hs, bs, hT⟩ := h.th
  exact ⟨⟨hB.os.trans h.b.os, hB.tape.trans h.b.tape, hB.output.trans h.b.output, Nat.le_trans h.b.size hB.size, fun k hk => (hB.block k (Nat.lt_of_lt_of_le hk h.b.size)).trans (h.b.block k hk)⟩, hdr, hs, bs, hT.keep hB.block⟩
theorem spare_call {G : List (Nat × Value)} {most : Int} (hc : SpareC G most) {w : World} (H : HR (Cx.start G w)) {lo b7 : Nat} {hdr : Value} {hs : List Value} {bs : List Nat} {o : Shp.Arcs} (hT : ThW lo w b7 hdr hs bs o) (hv : Shp.vE ngB o = 0) {i k : Nat} (hi : i < o.length) (h0 : 0 < k) (hk : k + 1 < (Shp.arc o i).length) :
    Calls Tryd.prog 31 #[.agg #[hdr], .int .i64 (i : Nat), .int .i64 (k : Nat), .int .i64 most] w fun e w' => e = .returned (.bool (Shp.spB most o i k)) ∧ Below w.heap.size w w' := by
  have hB : hasBodyB Tryd.prog 31 = true := by decide +kernel
  have hv : RelL (Cx.start G w) [.fz MpT o, .fz int (i : Nat), .fz int (k : Nat), .fz int most] [.agg #[hdr], .int .i64 (i : Nat), .int .i64 (k : Nat), .int .i64 most] := by
    unfold RelL
    refine ⟨_, _, rfl, ?_, ?_⟩
    · unfold Rel
      exact ⟨[hdr], start_fz hT.fz, rfl⟩
    · unfold RelL
      refine ⟨_, _, rfl, rel_int.2 rfl, ?_⟩
      unfold RelL
      refine ⟨_, _, rfl, rel_int.2 rfl, ?_⟩
      unfold RelL
      refine ⟨_, _, rfl, rel_int.2 rfl, ?_⟩
      unfold RelL
      rfl
  refine (callsX_body ((hc o i k ‹_› hi h0 hk).run (Cx.start G w) H rfl rfl _ hv) (hasBodyB_of hB)).mono fun e w' ⟨v, c', r, h1, h2, h3, h4, h5, h6⟩ => ?_
  subst h6 h2
  rw [rel_bool] at h5
  subst h5
  exact ⟨h1, below_of (h3.toN' (Nat.zero_le _))⟩
/-- where an arc lies -/
theorem at_arc {lo b7 : Nat} {w : World} {hdr : Value} {hs : List Value} {bs : List Nat} {o : Shp.Arcs} (hT : ThW lo w b7 hdr hs bs o) {i : Nat} (hi : i < o.length) :
    ∃ bA cap h p c, hdr = .slice (some ⟨bA, 0, none⟩) o.length cap ∧ h = .slice p (Shp.arc o i).length c ∧ (Instr.indexAt 31 hdr (.int .i64 (i : Int))).run Tryd.prog w = .ok (.pointer (some ⟨bA, i, none⟩)) w ∧ (Instr.loadAt 44 (.pointer (some ⟨bA, i, none⟩))).run Tryd.prog w = .ok h w := by
  have hlh := hT.lh
  rcases hT.arr with ⟨q, _⟩ | ⟨bA, capA, csA, etA, RA, q1, q2, q3, q4, q5, q6, q7, q8, q9⟩
  · rw [q] at hlh; simp at hlh; omega
  obtain ⟨cap, csI, etI, L, R, e1, e2, e3, e4, e5, e6⟩ := hT.arc i hi
  have hcA : csA.toList[i]? = some (hs.getD i undef) := by
    rw [q6, List.getElem?_append_left (by omega), List.getD_eq_getElem?_getD, List.getElem?_eq_getElem (by omega)]; rfl
  have e : (o : List (List (Int × Int)))[i]'hi = Shp.arc o i := by unfold Shp.arc; rw [List.getD_eq_getElem?_getD, List.getElem?_eq_getElem hi]; rfl
  rw [e] at e1
  refine ⟨bA, capA, _, _, cap, by rw [q1, hlh], e1, ?_, ld2_run q5 hcA⟩
  rw [q1]
  exact ix_run w (by omega)
theorem arc_le {o : Shp.Arcs} (h : Shp.vE ngB o = 0) {i : Nat} (hi : i < o.length) : (Shp.arc o i).length ≤ 4000 := by
  obtain ⟨⟨_, h1⟩, _⟩ := Shp.vE_zero h
  have := Shp.len_tot hi
  omega
set_option maxHeartbeats 1000000 in
theorem loopK {G : List (Nat × Value)} {w0 : World} (H0 : HR (Cx.start G w0)) {most : Int} (hc : SpareC G most) {p4 : Value} {n i : Nat} {R : Shp.Arcs × Bool} {o : Shp.Arcs} {g : Bool} (hv : Shp.vE ngB o = 0) (hn : o.length = n) (hi : i < n) (hR0 : Shp.kL (Shp.spB most) i (Shp.arc o i).length 1 (o, g) = R)
    {a : Act} {w : World} (hR : RS 76 [(1, .int .i64 most), (4, p4), (7, ptr7 w0), (10, .bool g), (11, .int .i64 (i : Nat)), (12, .int .i64 (1 : Nat)), (41, .int .i64 (n : Nat)), (42, .int .i64 (i : Nat))] a) (hT : TS w0 o w) {Q : Exit → Act → World → Prop}
    (hQ : ∀ a w, RS 76 [(1, .int .i64 most), (4, p4), (7, ptr7 w0), (10, .bool R.2), (41, .int .i64 (n : Nat)), (42, .int .i64 (i : Nat))] a → TS w0 R.1 w → Q .normal a w) :
    (Code.block 6 (.loop L4)).wp Tryd.prog Q a w := by
  refine wp_block (wp_loopI (ι := Nat × Nat × Shp.Arcs × Bool) (fun x a w => RS 76 [(1, .int .i64 most), (4, p4), (7, ptr7 w0), (10, .bool x.2.2.2), (11, .int .i64 (i : Nat)), (12, .int .i64 (x.2.1 : Nat)), (41, .int .i64 (n : Nat)), (42, .int .i64 (i : Nat))] a ∧ TS w0 x.2.2.1 w ∧
    Shp.vE ngB x.2.2.1 = 0 ∧ x.2.2.1.length = n ∧ 0 < x.2.1 ∧ (Shp.arc x.2.2.1 i).length ≤ x.1 + x.2.1 ∧ Shp.kL (Shp.spB most) i x.1 x.2.1 x.2.2 = R) (fun x => x.1) ((Shp.arc o i).length, 1, o, g) ⟨hR, hT, hv, hn, Nat.one_pos, Nat.le_add_right _ _, hR0⟩ fun ⟨f, k, o, g⟩ a w ⟨hRx, hTx, hvx, hnx, h0x, hfx, hR0x⟩ => ?_)
  have hR : RS 76 [(1, .int .i64 most), (4, p4), (7, ptr7 w0), (10, .bool g), (11, .int .i64 (i : Nat)), (12, .int .i64 (k : Nat)), (41, .int .i64 (n : Nat)), (42, .int .i64 (i : Nat))] a := hRx
  have hT : TS w0 o w := hTx
  have hn : o.length = n := hnx
  have hv : Shp.vE ngB o = 0 := hvx
  have h0 : 0 < k := h0x
  have hf : (Shp.arc o i).length ≤ f + k := hfx
  have hR0 : Shp.kL (Shp.spB most) i f k (o, g) = R := hR0x
  clear hRx hTx hvx hnx h0x hfx hR0x
  have hio : i < o.length := by omega
  have hle := arc_le hv hio
  have h2 := (Shp.right_of hv).two i hio
  obtain ⟨hdr, hs, bs, hT2⟩ := hT.th
  obtain ⟨bA, cap, h, p, c, q1, q2, q3, q4⟩ := at_arc hT2 hio
  obtain ⟨et7, h7⟩ := hT2.h7
  have hld : (Instr.loadAt 31 (ptr7 w0)).run Tryd.prog w = .ok hdr w := ld_run h7 rfl
  refine wp_seq (wp_seq (rs_region ?_))
  refine rs_val (.int .i64 (k : Nat)) w hR rfl rfl rfl rfl (by simp [execOp, hR.get 12 rfl]) fun a hR => ?_
  refine rs_val (ptr7 w0) w hR rfl rfl rfl rfl (by simp [execOp, hR.get 7 rfl, fa_run]) fun a hR => ?_
  refine rs_val hdr w hR rfl rfl rfl rfl (by simp [execOp, hR.get 46 rfl, hld]) fun a hR => ?_
  refine rs_val (.int .i64 (i : Nat)) w hR rfl rfl rfl rfl (by simp [execOp, hR.get 11 rfl]) fun a hR => ?_
  refine rs_val (.pointer (some ⟨bA, i, none⟩)) w hR rfl rfl rfl rfl (by simp [execOp, hR.get 47 rfl, hR.get 48 rfl, q3]) fun a hR => ?_
  refine rs_val h w hR rfl rfl rfl rfl (by simp [execOp, hR.get 49 rfl, q4]) fun a hR => ?_
  refine rs_val (.int .i64 ((Shp.arc o i).length : Nat)) w hR rfl rfl rfl rfl (by simp [execOp, resolve, invoke, hR.get 50 rfl, q2, len_runB]) fun a hR => ?_
  refine rs_val (.int .i64 (((Shp.arc o i).length : Int) - 1)) w hR rfl rfl rfl rfl (by simp [execOp, hR.get 51 rfl, show a.eval (.const (.int .i64 1)) = .int .i64 1 from rfl, eqGuard, sub_run (P := Tryd.prog) (w := w) (t := 3) (x := ((Shp.arc o i).length : Int)) (y := 1) (by omega) (by omega)]) fun a hR => ?_
  refine rs_val (.bool (decide ((k : Int) < ((Shp.arc o i).length : Int) - 1))) w hR rfl rfl rfl rfl (by simp [execOp, hR.get 45 rfl, hR.get 52 rfl, eqGuard, lss_run]) fun a hR => ?_
  refine wp_cond (hR.get 53 rfl) ?_
  by_cases hk : k + 1 < (Shp.arc o i).length
  · rw [decide_eq_true (by omega), if_pos rfl]
    refine wp_skip ?_
    refine wp_block (wp_seq (rs_region ?_))
    have hlm : (Instr.loadAt 33 (ptr7 w0)).run Tryd.prog w = .ok (.agg #[hdr]) w := by
      have := run_loadVar (P := Tryd.prog) tabOk (w := w) (t := 33) (b := w0.heap.size) (o := 0) (cs := [hdr]) (ag := true) (by decide +kernel) (show tsz tab 33 = 1 by decide +kernel) (by simp) (fun e => (by cases e)) (fun j hj => by
        have hj : j < 1 := hj
        obtain rfl : j = 0 := by omega
        rw [delK.cells_heap _ h7]; rfl)
      simp [Instr.loadAt, Instr.sureAddr, this]
    refine rs_val (.agg #[hdr]) w hR rfl rfl rfl rfl (by simp [execOp, hR.get 7 rfl, hlm]) fun a hR => ?_
    refine rs_val (.int .i64 (i : Nat)) w hR rfl rfl rfl rfl (by simp [execOp, hR.get 11 rfl]) fun a hR => ?_
    refine rs_val (.int .i64 (k : Nat)) w hR rfl rfl rfl rfl (by simp [execOp, hR.get 12 rfl]) fun a hR => ?_
    refine rs_val (.int .i64 most) w hR rfl rfl rfl rfl (by simp [execOp, hR.get 1 rfl]) fun a hR => ?_
    have hb : hasBody Tryd.prog 31 := hasBodyB_of (by decide +kernel)
    refine rs_call (f := 31) (vs := #[.agg #[hdr], .int .i64 (i : Nat), .int .i64 (k : Nat), .int .i64 most]) hR rfl rfl rfl rfl (by
      simp [execOp, resolve, Deferred.ofValue, invoke, hR.get 54 rfl, hR.get 55 rfl, hR.get 56 rfl, hR.get 57 rfl, show a.eval (.func 31) = .func (.func 31) #[] #[] from rfl, run_callFunc (w := w) (vs := #[.agg #[hdr], .int .i64 (i : Nat), .int .i64 (k : Nat), .int .i64 most]) hb]) ?_
    refine (spare_call hc (hr_start H0 hT.b.block) hT2 hv hio h0 hk).mono fun e w' ⟨he, hB⟩ => ⟨_, he, fun a hR => ?_⟩
    have hT := hT.step hB
    refine wp_cond (hR.get 58 rfl) ?_
    obtain ⟨f, rfl⟩ : ∃ f', f = f' + 1 := ⟨f - 1, by omega⟩
    obtain ⟨hdr, hs, bs, hT2⟩ := hT.th
    cases hs2 : Shp.spB most o i k with
    | true =>
      rw [if_pos rfl]
      have hsp := Shp.spB_iff.1 hs2
      have hnd : (o.getD i []).length ≤ 100000 := Nat.le_trans hle (by decide)
      have hkd : k < (o.getD i []).length := Nat.lt_of_succ_lt hk
      refine wp_seq (region21 (G := G) (T := []) ⟨hr_start H0 hT.b.block, fun n => rel_unk, hR.d, hR.n⟩ (i := i) (k := k) (hR.get 11 rfl) (hR.get 12 rfl) (hR.get 7 rfl) hT2 hio hkd hnd fun a' w' hs' hT3 hst hsz hold hsl hdf hsize => ?_)
      have hR' : RS 76 [(1, .int .i64 most), (4, p4), (7, ptr7 w0), (11, .int .i64 (i : Nat)), (12, .int .i64 (k : Nat)), (41, .int .i64 (n : Nat)), (42, .int .i64 (i : Nat))] a' := hR.keep ⟨rfl, rfl, rfl, rfl, rfl, rfl, rfl, trivial⟩ (fun p hp => by
        simp only [List.mem_cons, List.not_mem_nil, or_false] at hp
        rcases hp with rfl | rfl | rfl | rfl | rfl | rfl | rfl <;> exact hsl _ (by simp)) hdf hsize
      refine rs_region (rs_val (.bool true) w' hR' rfl rfl rfl rfl (by simp [execOp, show a'.eval (.const (.bool true)) = .bool true from rfl]) fun a hR => ?_)
      refine ⟨(f, k, Shp.del o i k, true), Nat.lt_succ_self _, hR.sub ⟨rfl, rfl, rfl, rfl, rfl, rfl, rfl, rfl, trivial⟩, ⟨⟨hst.os.trans hT.b.os, hst.tape.trans hT.b.tape, hst.output.trans hT.b.output, Nat.le_trans hT.b.size hsz, fun k hk => (hold k hk).trans (hT.b.block k hk)⟩, hdr, hs', bs, hT3⟩, ?_, ?_, h0, ?_, ?_⟩
      · exact Shp.vE_keep ngB most o i k hv hio h0 hk hs2
      · exact (Shp.del_length o i k).trans hn
      · show (Shp.arc (Shp.del o i k) i).length ≤ f + k
        rw [Shp.len_del hio (by omega)]
        omega
      · show Shp.kL (Shp.spB most) i f k (Shp.del o i k, true) = R
        rw [← hR0, Shp.kL_go hk hs2]
    | false =>
      rw [if_neg (by decide)]
      refine rs_region ?_
      refine rs_val (.int .i64 (k : Nat)) w' hR rfl rfl rfl rfl (by simp [execOp, hR.get 12 rfl]) fun a hR => ?_
      refine rs_val (.int .i64 (k + 1 : Nat)) w' hR rfl rfl rfl rfl (by simp [execOp, hR.get 72 rfl, show a.eval (.const (.int .i64 1)) = .int .i64 1 from rfl, eqGuard, add_run (P := Tryd.prog) (w := w') (t := 3) (x := (k : Int)) (y := 1) (by omega) (by omega)]) fun a hR => ?_
      refine rs_val (.int .i64 (k + 1 : Nat)) w' hR rfl rfl rfl rfl (by simp [execOp, hR.get 73 rfl]) fun a hR => ?_
      refine ⟨(f, k + 1, o, g), Nat.lt_succ_self _, hR.sub ⟨rfl, rfl, rfl, rfl, rfl, rfl, rfl, rfl, trivial⟩, hT, hv, hn, Nat.succ_pos _, ?_, ?_⟩
      · show (Shp.arc o i).length ≤ f + (k + 1)
        omega
      · show Shp.kL (Shp.spB most) i f (k + 1) (o, g) = R
        rw [← hR0, Shp.kL_stay hk hs2]
  · rw [decide_eq_false (by omega), if_neg (by decide)]
    refine wp_exit ?_
    rw [Shp.kL_end hk] at hR0
    subst hR0
    exact hQ a w (hR.sub ⟨rfl, rfl, rfl, rfl, rfl, rfl, trivial⟩) hT
end thin
end Go.Proofs.YtcfalmdfohphoaaDoor
/-
  Thin, raw: the loops over all arcs, until nothing changes.
-/
namespace Go.Proofs.YtcfalmdfohphoaaDoor
open Go Go.Ab Go.RowKit
set_option maxRecDepth 100000
namespace thin
theorem loopI {G : List (Nat × Value)} {w0 : World} (H0 : HR (Cx.start G w0)) {most : Int} (hc : SpareC G most) {p4 : Value} {n : Nat} (hn60 : n ≤ 60) {R : Shp.Arcs × Bool} {o : Shp.Arcs} (hv : Shp.vE ngB o = 0) (hn : o.length = n) (hR0 : Shp.iL (Shp.spB most) n 0 (o, false) = R)
    {a : Act} {w : World} (hR : RS 76 [(1, .int .i64 most), (4, p4), (7, ptr7 w0), (10, .bool false), (41, .int .i64 (n : Nat)), (42, .int .i64 (0 : Nat))] a) (hT : TS w0 o w) {Q : Exit → Act → World → Prop}
    (hQ : ∀ a w, RS 76 [(1, .int .i64 most), (4, p4), (7, ptr7 w0), (10, .bool R.2)] a → TS w0 R.1 w → Q .normal a w) :
    (Code.block 4 (.loop L3)).wp Tryd.prog Q a w := by
  refine wp_block (wp_loopI (ι := Nat × Shp.Arcs × Bool) (fun x a w => RS 76 [(1, .int .i64 most), (4, p4), (7, ptr7 w0), (10, .bool x.2.2), (41, .int .i64 (n : Nat)), (42, .int .i64 (x.1 : Nat))] a ∧ TS w0 x.2.1 w ∧
    Shp.vE ngB x.2.1 = 0 ∧ x.2.1.length = n ∧ x.1 ≤ n ∧ Shp.iL (Shp.spB most) (n - x.1) x.1 x.2 = R) (fun x => n - x.1) (0, o, false) ⟨hR, hT, hv, hn, Nat.zero_le _, hR0⟩ fun ⟨i, o, g⟩ a w ⟨hRx, hTx, hvx, hnx, hix, hR0x⟩ => ?_)
  have hR : RS 76 [(1, .int .i64 most), (4, p4), (7, ptr7 w0), (10, .bool g), (41, .int .i64 (n : Nat)), (42, .int .i64 (i : Nat))] a := hRx
  have hT : TS w0 o w := hTx
  have hn : o.length = n := hnx
  have hv : Shp.vE ngB o = 0 := hvx
  have hi : i ≤ n := hix
  have hR0 : Shp.iL (Shp.spB most) (n - i) i (o, g) = R := hR0x
  clear hRx hTx hvx hnx hix hR0x
  refine wp_seq (rs_region ?_)
  refine rs_val (.bool (decide ((i : Int) < (n : Nat)))) w hR rfl rfl rfl rfl (by simp [execOp, hR.get 42 rfl, hR.get 41 rfl, eqGuard, lss_run]) fun a hR => ?_
  refine wp_seq (wp_cond (hR.get 43 rfl) ?_)
  by_cases h : i < n
  · rw [decide_eq_true (by omega), if_pos rfl]
    refine wp_skip ?_
    refine wp_seq (wp_block (wp_seq (rs_region ?_)))
    refine rs_val (.int .i64 (i : Nat)) w hR rfl rfl rfl rfl (by simp [execOp, hR.get 42 rfl]) fun a hR => ?_
    refine rs_val (.int .i64 (i : Nat)) w hR rfl rfl rfl rfl (by simp [execOp, hR.get 44 rfl]) fun a hR => ?_
    refine wp_seq (rs_region ?_)
    refine rs_val (.int .i64 (1 : Nat)) w hR rfl rfl rfl rfl (by simp [execOp, show a.eval (.const (.int .i64 1)) = .int .i64 1 from rfl]) fun a hR => ?_
    have e : n - i = (n - (i + 1)) + 1 := by omega
    rw [e, Shp.iL] at hR0
    have hok : Shp.vE ngB (Shp.kL (Shp.spB most) i (Shp.arc o i).length 1 (o, g)).1 = 0 := Shp.kL_keep (P := fun m => Shp.vE ngB m = 0) (Shp.vE_keep ngB most) _ _ _ hv Nat.one_pos (by show i < o.length; omega)
    have hln : (Shp.kL (Shp.spB most) i (Shp.arc o i).length 1 (o, g)).1.length = n := (Shp.kL_len (s := (o, g)) (by show i < o.length; omega) Nat.one_pos).trans hn
    refine loopK H0 hc hv hn h rfl (hR.sub ⟨rfl, rfl, rfl, rfl, rfl, rfl, rfl, rfl, trivial⟩) hT fun a w hR hT => ?_
    show (cd 24 r24).wp _ _ _ _
    refine rs_region ?_
    refine rs_val (.int .i64 (i + 1 : Nat)) w hR rfl rfl rfl rfl (by simp [execOp, hR.get 42 rfl, show a.eval (.const (.int .i64 1)) = .int .i64 1 from rfl, eqGuard, add_run (P := Tryd.prog) (w := w) (t := 3) (x := (i : Int)) (y := 1) (by omega) (by omega)]) fun a hR => ?_
    refine rs_val (.int .i64 (i + 1 : Nat)) w hR rfl rfl rfl rfl (by simp [execOp, hR.get 74 rfl]) fun a hR => ?_
    exact ⟨(i + 1, Shp.kL (Shp.spB most) i (Shp.arc o i).length 1 (o, g)), by show n - (i + 1) < n - i; omega, hR.sub ⟨rfl, rfl, rfl, rfl, rfl, rfl, trivial⟩, hT, hok, hln, h, hR0⟩
  · rw [decide_eq_false (by omega), if_neg (by decide)]
    refine wp_exit ?_
    have e : n - i = 0 := by omega
    rw [e] at hR0
    have hR0 : (o, g) = R := hR0
    subst hR0
    exact hQ a w (hR.sub ⟨rfl, rfl, rfl, rfl, trivial⟩) hT
theorem hdr_len {lo b7 : Nat} {w : World} {hdr : Value} {hs : List Value} {bs : List Nat} {o : Shp.Arcs} (hT : ThW lo w b7 hdr hs bs o) : ∃ p cap, hdr = .slice p o.length cap := by
  rcases hT.arr with ⟨q, q2⟩ | ⟨bA, capA, csA, etA, RA, q1, _⟩
  · have := hT.lh
    rw [q] at this
    exact ⟨none, 0, by rw [q2, ← this]; rfl⟩
  · exact ⟨_, capA, by rw [q1, hT.lh]⟩
theorem loopA {G : List (Nat × Value)} {w0 : World} (H0 : HR (Cx.start G w0)) {most : Int} (hc : SpareC G most) {p4 : Value} {m : Shp.Arcs} (hv : Shp.vE ngB m = 0)
    {a : Act} {w : World} (hR : RS 76 [(1, .int .i64 most), (4, p4), (7, ptr7 w0), (10, .bool true)] a) (hT : TS w0 m w) {Q : Exit → Act → World → Prop}
    (hQ : ∀ a w, RS 76 [(1, .int .i64 most), (4, p4), (7, ptr7 w0)] a → TS w0 (Shp.thinned most m) w → Q .normal a w) :
    (Code.block 2 (.loop L2)).wp Tryd.prog Q a w := by
  obtain ⟨R, hR0⟩ : ∃ R, Shp.thinned most m = R := ⟨_, rfl⟩
  rw [hR0] at hQ
  refine wp_block (wp_loopI (ι := Nat × Shp.Arcs × Bool) (fun x a w => RS 76 [(1, .int .i64 most), (4, p4), (7, ptr7 w0), (10, .bool x.2.2)] a ∧ TS w0 x.2.1 w ∧
    Shp.vE ngB x.2.1 = 0 ∧ (x.2.2 = true → Shp.aL (Shp.spB most) x.1 x.2.1 = R ∧ Shp.all x.2.1 < x.1) ∧ (x.2.2 = false → x.2.1 = R)) (fun x => x.1) (Shp.all m + 1, m, true) ⟨hR, hT, hv, fun _ => ⟨hR0, Nat.lt_succ_self _⟩, fun e => (by cases e)⟩ fun ⟨f, o, g⟩ a w ⟨hRx, hTx, hvx, hgx, hfx⟩ => ?_)
  have hR : RS 76 [(1, .int .i64 most), (4, p4), (7, ptr7 w0), (10, .bool g)] a := hRx
  have hT : TS w0 o w := hTx
  have hv : Shp.vE ngB o = 0 := hvx
  have hg : g = true → Shp.aL (Shp.spB most) f o = R ∧ Shp.all o < f := hgx
  have hf : g = false → o = R := hfx
  clear hRx hTx hvx hgx hfx
  refine wp_seq (wp_seq (rs_region ?_))
  refine rs_val (.bool g) w hR rfl rfl rfl rfl (by simp [execOp, hR.get 10 rfl]) fun a hR => ?_
  refine wp_cond (hR.get 38 rfl) ?_
  cases g with
  | false =>
    rw [if_neg (by decide)]
    refine wp_exit ?_
    have := hf rfl
    subst this
    exact hQ a w (hR.sub ⟨rfl, rfl, rfl, trivial⟩) hT
  | true =>
    rw [if_pos rfl]
    refine wp_skip ?_
    obtain ⟨h1, h2⟩ := hg rfl
    obtain ⟨f, rfl⟩ : ∃ f', f = f' + 1 := ⟨f - 1, by omega⟩
    rw [Shp.aL_step] at h1
    have hl := (Shp.vE_zero hv).1.1
    have hfell := Shp.round_fell (sp := Shp.spB most) o
    have hok : Shp.vE ngB (Shp.iL (Shp.spB most) o.length 0 (o, false)).1 = 0 := Shp.iL_keep (P := fun m => Shp.vE ngB m = 0) (Shp.vE_keep ngB most) _ _ _ hv (by simp)
    refine wp_block (wp_seq (rs_region ?_))
    refine rs_val (.bool false) w hR rfl rfl rfl rfl (by simp [execOp, show a.eval (.const (.bool false)) = .bool false from rfl]) fun a hR => ?_
    obtain ⟨hdr, hs, bs, hT2⟩ := hT.th
    obtain ⟨et7, h7⟩ := hT2.h7
    obtain ⟨p, cap, hh⟩ := hdr_len hT2
    have hld : (Instr.loadAt 31 (ptr7 w0)).run Tryd.prog w = .ok hdr w := ld_run h7 rfl
    refine wp_seq (rs_region ?_)
    refine rs_val (ptr7 w0) w hR rfl rfl rfl rfl (by simp [execOp, hR.get 7 rfl, fa_run]) fun a hR => ?_
    refine rs_val hdr w hR rfl rfl rfl rfl (by simp [execOp, hR.get 39 rfl, hld]) fun a hR => ?_
    refine rs_val (.int .i64 (o.length : Nat)) w hR rfl rfl rfl rfl (by simp [execOp, resolve, invoke, hR.get 40 rfl, hh, len_runA]) fun a hR => ?_
    refine rs_val (.int .i64 (0 : Nat)) w hR rfl rfl rfl rfl (by simp [execOp, show a.eval (.const (.int .i64 0)) = .int .i64 0 from rfl]) fun a hR => ?_
    refine loopI H0 hc hl hv rfl rfl (hR.sub ⟨rfl, rfl, rfl, rfl, rfl, rfl, trivial⟩) hT fun a w hR hT => ?_
    refine ⟨(f, Shp.iL (Shp.spB most) o.length 0 (o, false)), Nat.lt_succ_self _, hR, hT, hok, fun e => ?_, fun e => ?_⟩
    · have e : (Shp.iL (Shp.spB most) o.length 0 (o, false)).2 = true := e
      rw [if_pos e] at h1
      exact ⟨h1, by have := hfell.2 e; show Shp.all (Shp.iL (Shp.spB most) o.length 0 (o, false)).1 < f; omega⟩
    · have e : (Shp.iL (Shp.spB most) o.length 0 (o, false)).2 = false := e
      rw [if_neg (by rw [e]; decide)] at h1
      exact h1
end thin
end Go.Proofs.YtcfalmdfohphoaaDoor
/-
  Thin: the walk.
-/
namespace Go.Proofs.YtcfalmdfohphoaaDoor
open Go Go.Ab Go.RowKit Mp
set_option maxRecDepth 100000
namespace thin
theorem ArcR.fzI {I : Nat → Prop} {lo : Nat} (hI : ∀ b, lo ≤ b → I b) {w : World} {v : Value} {b : Nat} {xs : Arc} (h : ArcR lo w v b xs) : FzC I w (.list SpT) xs [v] := by
  obtain ⟨cap, cs, et, L, R, rfl, hlo, h3, h4, h5, h6⟩ := h
  refine ⟨some ⟨b, 0, none⟩, cap, rfl, h3, fun i hi => ?_⟩
  have h2 := (cells_flat (I' := I) (w' := w) h6).2 i hi
  refine ⟨b, 0, _, rfl, hI b hlo, lt_of h4, h2, fun j hj => ?_⟩
  have e : ((L.drop (i * SpT.size)).take SpT.size)[j]? = some ((L.drop (i * SpT.size)).take SpT.size)[j] := List.getElem?_eq_getElem hj
  rw [List.length_take] at hj
  rw [List.getElem?_take, if_pos (by omega), List.getElem?_drop] at e
  rw [delK.cells_heap _ h4, h5, Nat.zero_add, List.getElem?_append_left (get_lt e)]
  exact e
theorem ThW.fzI {I : Nat → Prop} {lo : Nat} (hI : ∀ b, lo ≤ b → I b) {w : World} {b7 : Nat} {hdr : Value} {hs : List Value} {bs : List Nat} {outs : List Arc} (h : ThW lo w b7 hdr hs bs outs) : FzC I w MpT outs [hdr] := by
  show FzC I w (.list (.list SpT)) outs [hdr]
  have hlh := h.lh
  rcases h.arr with ⟨h1, rfl⟩ | ⟨bA, cap, cs, et, R, rfl, q2, q3, q4, q5, q6, q7, q8, q9⟩
  · have h0 : outs = [] := List.eq_nil_of_length_eq_zero (by rw [← hlh, h1]; rfl)
    subst h0
    exact ⟨none, 0, rfl, Nat.le_refl _, fun i hi => absurd hi (Nat.not_lt_zero _)⟩
  · refine ⟨some ⟨bA, 0, none⟩, cap, by rw [hlh], by rw [← hlh]; exact q7, fun i hi => ?_⟩
    have h2 := (h.arc i hi).fzI hI
    refine ⟨bA, 0, _, rfl, hI bA q2, lt_of q5, h2, fun j hj => ?_⟩
    have hj : j < 1 := hj
    obtain rfl : j = 0 := by omega
    rw [delK.cells_heap _ q5, q6]
    have hi' : i < hs.length := by rw [hlh]; exact hi
    show (hs ++ R)[0 + i * 1 + 0]? = some (hs.getD i undef)
    rw [Nat.zero_add, Nat.mul_one, Nat.add_zero, List.getElem?_append_left hi', List.getD_eq_getElem?_getD, List.getElem?_eq_getElem hi']
    rfl
theorem alloc_run (w : World) : (Instr.alloc 33 true (.tuple #[])).run Tryd.prog w = .ok (.pointer (some ⟨w.heap.size, 0, none⟩)) (w.alloc (.cells #[.slice none 0 0] 33)) := by kernel_rfl
theorem ts_nil (w : World) : TS w [] (w.alloc (.cells #[.slice none 0 0] 33)) := by
  refine ⟨⟨rfl, rfl, rfl, Nat.le_of_lt (lt_of (heap_alloc_new w _)), fun k hk => heap_alloc_old w _ hk⟩, .slice none 0 0, [], [], Nat.le_refl _, ⟨_, heap_alloc_new w _⟩, rfl, rfl, List.nodup_nil, List.not_mem_nil, .inl ⟨rfl, rfl⟩, fun j h => absurd h (Nat.not_lt_zero _)⟩
theorem list_slice {c : Cx} {m : Shp.Arcs} {hm : Value} (h : Rel c (.fz LLT m) hm) : ∃ p cap, hm = .slice p m.length cap := by
  unfold Rel at h
  obtain ⟨cs, ⟨p, cap, rfl, h1, h2⟩, hv⟩ := h
  exact ⟨p, cap, hv⟩
set_option maxHeartbeats 4000000 in
theorem thin_any (E : Errs) (m : Shp.Arcs) (most : Int) (hl : m.length ≤ 1000000000000000) (hlen : ∀ i, i < m.length → (Shp.arc m i).length ≤ 8796093022208) (K : AV → List AO → Prop)
    (hc : 0 ≤ most → SpareC (G8 E) most)
    (hK0 : Shp.vE ngB m = 0 → 0 ≤ most → K (.tup [.agg [.fz (.list (.list SpT)) (Shp.thinned most m)], .fz .raw .nilIface]) [])
    (hK1 : Shp.vE ngB m = 0 → most < 0 → K (.tup [.agg [.nilSl], .fz .raw (er E 3)]) [])
    (hK2 : Shp.vE ngB m ≠ 0 → K (.tup [.agg [.nilSl], .fz .raw (er E (Shp.vE ngB m))]) []) : ACall Tryd.prog (G8 E) 14 [.fz MpT m, .fz int most] [] K := by
  refine acall_wp (E := envAt (G8 E) 76 0) (envOk _ _ _) Tryd.func14 rfl rfl rfl rfl rfl fun cx hG a w hs => ?_
  refine wp_seg (envOk _ _ _) hG hs (σ1 := ⟨[(1, .fz int most), (2, .ptr 0 0), (4, .ptr 1 0)], [.box [.fz (.list (.list SpT)) m], .box [.nilSl]]⟩) ?_ fun a w hs => ?_
  · (repeat' (first | exact trivial | refine And.intro ?_ ?_ | (intro hb; try simp at hb) | omega | exact rfl | refine aRegion_auto (by decide +kernel) ?_ | fail))
    refine ⟨Ent.sub rfl ?_⟩
    (repeat' (first | exact trivial | exact rfl | refine And.intro ?_ ?_))
  by_cases hv : Shp.vE ngB m = 0
  case neg =>
    refine awp_sound (envOk _ _ _) cx hG _ _ _ _ _ ?_ hs
    (repeat' (first | exact trivial | refine And.intro ?_ ?_ | (intro hb; try simp at hb) | omega | exact rfl | refine aRegion_auto (by decide +kernel) ?_ | fail))
    refine acall_conv [.dat MpT] _ _ _ rfl trivial (acall_frame0 rfl (valid_any E m hl hlen _ ?_))
    have hK := hK2 hv
    have hle := Shp.vE_le ngB m
    obtain ⟨e, he⟩ : ∃ e, Shp.vE ngB m = e := ⟨_, rfl⟩
    rw [he] at hK hv hle ⊢
    have hd : e = 2 ∨ e = 3 ∨ e = 7 := by
      unfold Shp.vE at he
      split at he
      · omega
      · split at he
        · omega
        · split at he <;> omega
    rcases hd with rfl | rfl | rfl
    · (repeat' (first | exact trivial | refine And.intro ?_ ?_ | (intro hb; try simp at hb) | omega | exact rfl | refine aRegion_auto (by decide +kernel) ?_ | refine ⟨_, _, REnt.drop ⟨rfl, rfl⟩, ?_⟩ | fail))
      exact hK
    · (repeat' (first | exact trivial | refine And.intro ?_ ?_ | (intro hb; try simp at hb) | omega | exact rfl | refine aRegion_auto (by decide +kernel) ?_ | refine ⟨_, _, REnt.drop ⟨rfl, rfl⟩, ?_⟩ | fail))
      exact hK
    · (repeat' (first | exact trivial | refine And.intro ?_ ?_ | (intro hb; try simp at hb) | omega | exact rfl | refine aRegion_auto (by decide +kernel) ?_ | refine ⟨_, _, REnt.drop ⟨rfl, rfl⟩, ?_⟩ | fail))
      exact hK
  refine wp_seg (envOk _ _ _) hG hs (σ1 := ⟨[(1, .fz int most), (2, .ptr 0 0), (4, .ptr 1 0)], [.box [.fz (.list (.list SpT)) m], .box [.nilSl]]⟩) ?_ fun a w hs => ?_
  · (repeat' (first | exact trivial | refine And.intro ?_ ?_ | (intro hb; try simp at hb) | omega | exact rfl | refine aRegion_auto (by decide +kernel) ?_ | fail))
    refine acall_conv [.dat MpT] _ _ _ rfl trivial (acall_frame0 rfl (valid_any E m hl hlen _ ?_))
    rw [hv]
    (repeat' (first | exact trivial | refine And.intro ?_ ?_ | (intro hb; try simp at hb) | omega | exact rfl | refine aRegion_auto (by decide +kernel) ?_ | fail))
    refine ⟨Ent.sub rfl ?_⟩
    (repeat' (first | exact trivial | exact rfl | refine And.intro ?_ ?_))
  by_cases hm : most < 0
  · refine awp_sound (envOk _ _ _) cx hG _ _ _ _ _ ?_ hs
    (repeat' (first | exact trivial | refine And.intro ?_ ?_ | (intro hb; try simp at hb) | omega | exact rfl | refine aRegion_auto (by decide +kernel) ?_ | refine ⟨_, _, REnt.drop ⟨rfl, rfl⟩, ?_⟩ | fail))
    (apply exEff; focus (repeat' (first | exact ⟨rfl, rfl⟩ | exact trivial | refine And.intro ?_ ?_ | omega | exact Nat.le_refl _ | (show _ + 1 ≤ 4294967296; omega) | (show _ + 1 ≤ 5864062014634; omega))))
    (repeat' (first | exact trivial | refine And.intro ?_ ?_ | (intro hb; try simp at hb) | omega | exact rfl | refine aRegion_auto (by decide +kernel) ?_ | refine ⟨_, _, REnt.drop ⟨rfl, rfl⟩, ?_⟩ | fail))
    exact hK1 hv hm
  refine wp_seg (envOk _ _ _) hG hs (σ1 := ⟨[(1, .fz int most), (2, .ptr 0 0), (4, .ptr 1 0)], [.box [.fz (.list (.list SpT)) m], .box [.nilSl]]⟩) ?_ fun a w hs => ?_
  · (repeat' (first | exact trivial | refine And.intro ?_ ?_ | (intro hb; try simp at hb) | omega | exact rfl | refine aRegion_auto (by decide +kernel) ?_ | fail))
    refine ⟨Ent.sub rfl ?_⟩
    (repeat' (first | exact trivial | exact rfl | refine And.intro ?_ ?_))
  obtain ⟨c, rfl, hA, H, hT, hE, hd, hN⟩ := hs
  have hA : c.A = [.box [.fz (.list (.list SpT)) m], .box [.nilSl]] := hA
  have hG' : c.G = G8 E := hE.G.trans hG
  have H0 : HR (Cx.start (G8 E) c.w) := ⟨fun t b h => by obtain ⟨o, h1, _⟩ := h; simp [Cx.start] at h1, fun t u b h => by obtain ⟨o, h1, _⟩ := h; simp [Cx.start] at h1,
    fun t o h => by simp [Cx.start] at h, fun b h => h.elim, fun g v h => GloOk.mono (c := c) (c' := Cx.start (G8 E) c.w) (fun b _ _ => ⟨start_I b, rfl⟩) (H.glo g v (by rw [hG']; exact h))⟩
  have t1 : a.tmps.getD 1 undef = .int .i64 most := rel_int.1 (hT 1)
  obtain ⟨b2, r2, t2⟩ : ∃ b, c.ρ 0 = some b ∧ a.tmps.getD 2 undef = .pointer (some ⟨b, 0, none⟩) := by
    have h : Rel c (.ptr 0 0) (a.tmps.getD 2 undef) := hT 2
    unfold Rel at h
    rw [hA] at h
    exact h
  obtain ⟨hm, et, h2, hmr⟩ : ∃ hm et, c.w.heap[b2]? = some (.cells #[hm] et (0, 0)) ∧ Rel c (.fz (.list (.list SpT)) m) hm := by
    obtain ⟨b, cs, et, k1, k2, k3⟩ := H.obj 0 (.box [.fz (.list (.list SpT)) m]) (by rw [hA]; rfl)
    rw [r2] at k1
    cases k1
    unfold RelL at k3
    obtain ⟨v, r, rfl, k4, k5⟩ := k3
    unfold RelL at k5
    subst k5
    exact ⟨v, et, k2, k4⟩
  have hmr : Rel (Cx.start (G8 E) c.w) (.fz LLT m) hm := tf_start (c := c) rfl hmr
  obtain ⟨p4, t4⟩ : ∃ p4, a.tmps.getD 4 undef = p4 := ⟨_, rfl⟩
  have h4 : Rel c (.ptr 1 0) p4 := by rw [← t4]; exact hT 4
  have hR : RS 76 [(1, .int .i64 most), (2, .pointer (some ⟨b2, 0, none⟩)), (4, p4)] a := ⟨fun t v e => by
    have := lkV_mem e
    simp only [List.mem_cons, Prod.mk.injEq, List.not_mem_nil, or_false] at this
    rcases this with ⟨rfl, rfl⟩ | ⟨rfl, rfl⟩ | ⟨rfl, rfl⟩
    · exact t1
    · exact t2
    · exact t4, hd, hN⟩
  show (Code.seq _ _).wp Tryd.prog _ _ _
  refine wp_seq (rs_region (L := r6) ?_)
  refine rs_val (ptr7 c.w) (c.w.alloc (.cells #[.slice none 0 0] 33)) hR rfl rfl rfl rfl (by simp [execOp, alloc_run]) fun a hR => ?_
  have hT0 := ts_nil c.w
  obtain ⟨p, cap, hms⟩ := list_slice hmr
  refine wp_seq (wp_seq (rs_region (L := r7) ?_))
  refine rs_val (.pointer (some ⟨b2, 0, none⟩)) (c.w.alloc (.cells #[.slice none 0 0] 33)) hR rfl rfl rfl rfl (by simp [execOp, hR.get 2 rfl, fa_run]) fun a hR => ?_
  have hld : (Instr.loadAt 31 (.pointer (some ⟨b2, 0, none⟩))).run Tryd.prog (c.w.alloc (.cells #[.slice none 0 0] 33)) = .ok hm (c.w.alloc (.cells #[.slice none 0 0] 33)) := ld_run ((heap_alloc_old c.w _ (lt_of h2)).trans h2) rfl
  refine rs_val hm (c.w.alloc (.cells #[.slice none 0 0] 33)) hR rfl rfl rfl rfl (by simp [execOp, hR.get 23 rfl, hld]) fun a hR => ?_
  refine rs_val (.int .i64 (m.length : Nat)) (c.w.alloc (.cells #[.slice none 0 0] 33)) hR rfl rfl rfl rfl (by simp [execOp, resolve, invoke, hR.get 24 rfl, hms, len_runA]) fun a hR => ?_
  refine rs_val (.int .i64 (0 : Nat)) (c.w.alloc (.cells #[.slice none 0 0] 33)) hR rfl rfl rfl rfl (by simp [execOp, show a.eval (.const (.int .i64 0)) = .int .i64 0 from rfl]) fun a hR => ?_
  have hz := Shp.vE_zero hv
  refine loop1 (G := G8 E) H0 hmr hz.1.1 (fun i hi => ⟨(Shp.right_of hv).two i hi, arc_le hv hi⟩) (v1 := .int .i64 most) (p4 := p4) (hR.sub ⟨rfl, rfl, rfl, rfl, rfl, rfl, trivial⟩) hT0 fun a w hR hT => ?_
  refine wp_seq (wp_seq (rs_region (L := r12) ?_))
  refine rs_val (.bool true) w hR rfl rfl rfl rfl (by simp [execOp, show a.eval (.const (.bool true)) = .bool true from rfl]) fun a hR => ?_
  refine loopA (G := G8 E) H0 (hc (by omega)) hv (p4 := p4) (hR.sub ⟨rfl, rfl, rfl, rfl, trivial⟩) hT fun a w hR hT => ?_
  have hK := hK0 hv (by omega)
  obtain ⟨out, ho⟩ : ∃ out, Shp.thinned most m = out := ⟨_, rfl⟩
  rw [ho] at hT hK
  obtain ⟨hB, hdr, hs, bs, hT2⟩ := hT
  obtain ⟨k1, k2⟩ := below_ext H hB
  have hI : ∀ b, c.w.heap.size ≤ b → ({ c with w := w } : Cx).I b := fun b hb => ⟨fun hx => by have := H.old b hx; omega, fun t hl hr => by have := H.lt hl hr; omega⟩
  have hs : Sim 0 cx 76 ⟨[(4, .ptr 1 0), (7, .fptr MpT out)], [.box [.fz (.list (.list SpT)) m], .box [.nilSl]]⟩ a w := by
    refine ⟨{ c with w := w }, rfl, hA, k2, fun n => ?_, hE.trans (k1.toN' (Nat.zero_le _)), hR.d, hR.n⟩
    unfold lk
    by_cases c4 : 4 = n
    · subst c4
      rw [if_pos rfl, hR.ev 4 p4 rfl]
      exact h4.ext k1
    · rw [if_neg c4]
      unfold lk
      by_cases c7 : 7 = n
      · subst c7
        rw [if_pos rfl, hR.ev 7 _ rfl]
        obtain ⟨et7, h7⟩ := hT2.h7
        unfold Rel
        refine ⟨c.w.heap.size, 0, [hdr], rfl, hI _ (Nat.le_refl _), lt_of h7, hT2.fzI hI, fun j hj => ?_⟩
        have hj : j < 1 := hj
        obtain rfl : j = 0 := by omega
        show w.cell? ⟨c.w.heap.size, 0, none⟩ = some hdr
        rw [delK.cells_heap _ h7]; rfl
      · rw [if_neg c7]
        exact rel_unk
  refine awp_sound (envOk _ _ _) cx hG _ _ _ _ _ ?_ hs
  (repeat' (first | exact trivial | refine And.intro ?_ ?_ | (intro hb; try simp at hb) | omega | exact rfl | refine aRegion_auto (by decide +kernel) ?_ | refine ⟨_, _, REnt.drop ⟨rfl, rfl⟩, ?_⟩ | fail))
  exact hK
end thin
end Go.Proofs.YtcfalmdfohphoaaDoor
