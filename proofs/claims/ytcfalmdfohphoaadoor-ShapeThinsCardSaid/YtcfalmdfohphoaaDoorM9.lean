/-
  Thin, raw: the loops over all arcs, until nothing changes.
-/
import Derived.Test.YtcfalmdfohphoaaDoorM8
namespace Go.Proofs.YtcfalmdfohphoaaDoor
open Go Go.Ab Go.RowKit
set_option maxRecDepth 100000
namespace thin
theorem loopI {G : List (Nat × Value)} {w0 : World} (H0 : HR (Cx.start G w0)) {most : Int} (hc : SpareC G most) {p4 : Value} {n : Nat} (hn60 : n ≤ 60) {R : Shp.Arcs × Bool} {o : Shp.Arcs} (hv : Shp.vE ngB o = 0) (hn : o.length = n) (hR0 : Shp.iL (Shp.spB most) n 0 (o, false) = R)
    {a : Act} {w : World} (hR : RS 76 [(1, .int .i64 most), (4, p4), (7, ptr7 w0), (10, .bool false), (41, .int .i64 (n : Nat)), (42, .int .i64 (0 : Nat))] a) (hT : TS w0 o w) {Q : Exit → Act → World → Prop}
    (hQ : ∀ a w, RS 76 [(1, .int .i64 most), (4, p4), (7, ptr7 w0), (10, .bool R.2)] a → TS w0 R.1 w → Q .normal a w) :
    (Code.block 4 (.loop L3)).wp Tryd.prog Q a w := by
  refine wp_block (wp_loopI (ι := Nat × Shp.Arcs × Bool) (fun x a w => RS 76 [(1, .int .i64 most), (4, p4), (7, ptr7 w0), (10, .bool x.2.2), (41, .int .i64 (n : Nat)), (42, .int .i64 (x.1 : Nat))] a ∧ TS w0 x.2.1 w ∧
    Shp.vE ngB x.2.1 = 0 ∧ x.2.1.length = n ∧ x.1 ≤ n ∧ Shp.iL (Shp.spB most) (n - x.1) x.1 x.2 = R) (fun x => n - x.1) (0, o, false) ⟨hR, hT, hv, hn, Nat.zero_le _, hR0⟩ fun ⟨i, o, g⟩ a w ⟨hRx, hTx, hvx, hnx, hix, hR0x⟩ => ?_)
  have hR : RS 76 [(1, .int .i64 most), (4, p4), (7, ptr7 w0), (10, .bool g), (41, .int .i64 (n : Nat)), (42, .int .i64 (i : Nat))] a := hRx
  have hT : TS w0 o w := hTx
  have hn : o.length = n := hnx
  have hv : Shp.vE ngB o = 0 := hvx
  have hi : i ≤ n := hix
  have hR0 : Shp.iL (Shp.spB most) (n - i) i (o, g) = R := hR0x
  clear hRx hTx hvx hnx hix hR0x
  refine wp_seq (rs_region ?_)
  refine rs_val (.bool (decide ((i : Int) < (n : Nat)))) w hR rfl rfl rfl rfl (by simp [execOp, hR.get 42 rfl, hR.get 41 rfl, eqGuard, lss_run]) fun a hR => ?_
  refine wp_seq (wp_cond (hR.get 43 rfl) ?_)
  by_cases h : i < n
  · rw [decide_eq_true (by omega), if_pos rfl]
    refine wp_skip ?_
    refine wp_seq (wp_block (wp_seq (rs_region ?_)))
    refine rs_val (.int .i64 (i : Nat)) w hR rfl rfl rfl rfl (by simp [execOp, hR.get 42 rfl]) fun a hR => ?_
    refine rs_val (.int .i64 (i : Nat)) w hR rfl rfl rfl rfl (by simp [execOp, hR.get 44 rfl]) fun a hR => ?_
    refine wp_seq (rs_region ?_)
    refine rs_val (.int .i64 (1 : Nat)) w hR rfl rfl rfl rfl (by simp [execOp, show a.eval (.const (.int .i64 1)) = .int .i64 1 from rfl]) fun a hR => ?_
    have e : n - i = (n - (i + 1)) + 1 := by omega
    rw [e, Shp.iL] at hR0
    have hok : Shp.vE ngB (Shp.kL (Shp.spB most) i (Shp.arc o i).length 1 (o, g)).1 = 0 := Shp.kL_keep (P := fun m => Shp.vE ngB m = 0) (Shp.vE_keep ngB most) _ _ _ hv Nat.one_pos (by show i < o.length; omega)
    have hln : (Shp.kL (Shp.spB most) i (Shp.arc o i).length 1 (o, g)).1.length = n := (Shp.kL_len (s := (o, g)) (by show i < o.length; omega) Nat.one_pos).trans hn
    refine loopK H0 hc hv hn h rfl (hR.sub ⟨rfl, rfl, rfl, rfl, rfl, rfl, rfl, rfl, trivial⟩) hT fun a w hR hT => ?_
    show (cd 24 r24).wp _ _ _ _
    refine rs_region ?_
    refine rs_val (.int .i64 (i + 1 : Nat)) w hR rfl rfl rfl rfl (by simp [execOp, hR.get 42 rfl, show a.eval (.const (.int .i64 1)) = .int .i64 1 from rfl, eqGuard, add_run (P := Tryd.prog) (w := w) (t := 3) (x := (i : Int)) (y := 1) (by omega) (by omega)]) fun a hR => ?_
    refine rs_val (.int .i64 (i + 1 : Nat)) w hR rfl rfl rfl rfl (by simp [execOp, hR.get 74 rfl]) fun a hR => ?_
    exact ⟨(i + 1, Shp.kL (Shp.spB most) i (Shp.arc o i).length 1 (o, g)), by show n - (i + 1) < n - i; omega, hR.sub ⟨rfl, rfl, rfl, rfl, rfl, rfl, trivial⟩, hT, hok, hln, h, hR0⟩
  · rw [decide_eq_false (by omega), if_neg (by decide)]
    refine wp_exit ?_
    have e : n - i = 0 := by omega
    rw [e] at hR0
    have hR0 : (o, g) = R := hR0
    subst hR0
    exact hQ a w (hR.sub ⟨rfl, rfl, rfl, rfl, trivial⟩) hT
theorem hdr_len {lo b7 : Nat} {w : World} {hdr : Value} {hs : List Value} {bs : List Nat} {o : Shp.Arcs} (hT : ThW lo w b7 hdr hs bs o) : ∃ p cap, hdr = .slice p o.length cap := by
  rcases hT.arr with ⟨q, q2⟩ | ⟨bA, capA, csA, etA, RA, q1, _⟩
  · have := hT.lh
    rw [q] at this
    exact ⟨none, 0, by rw [q2, ← this]; rfl⟩
  · exact ⟨_, capA, by rw [q1, hT.lh]⟩
theorem loopA {G : List (Nat × Value)} {w0 : World} (H0 : HR (Cx.start G w0)) {most : Int} (hc : SpareC G most) {p4 : Value} {m : Shp.Arcs} (hv : Shp.vE ngB m = 0)
    {a : Act} {w : World} (hR : RS 76 [(1, .int .i64 most), (4, p4), (7, ptr7 w0), (10, .bool true)] a) (hT : TS w0 m w) {Q : Exit → Act → World → Prop}
    (hQ : ∀ a w, RS 76 [(1, .int .i64 most), (4, p4), (7, ptr7 w0)] a → TS w0 (Shp.thinned most m) w → Q .normal a w) :
    (Code.block 2 (.loop L2)).wp Tryd.prog Q a w := by
  obtain ⟨R, hR0⟩ : ∃ R, Shp.thinned most m = R := ⟨_, rfl⟩
  rw [hR0] at hQ
  refine wp_block (wp_loopI (ι := Nat × Shp.Arcs × Bool) (fun x a w => RS 76 [(1, .int .i64 most), (4, p4), (7, ptr7 w0), (10, .bool x.2.2)] a ∧ TS w0 x.2.1 w ∧
    Shp.vE ngB x.2.1 = 0 ∧ (x.2.2 = true → Shp.aL (Shp.spB most) x.1 x.2.1 = R ∧ Shp.all x.2.1 < x.1) ∧ (x.2.2 = false → x.2.1 = R)) (fun x => x.1) (Shp.all m + 1, m, true) ⟨hR, hT, hv, fun _ => ⟨hR0, Nat.lt_succ_self _⟩, fun e => (by cases e)⟩ fun ⟨f, o, g⟩ a w ⟨hRx, hTx, hvx, hgx, hfx⟩ => ?_)
  have hR : RS 76 [(1, .int .i64 most), (4, p4), (7, ptr7 w0), (10, .bool g)] a := hRx
  have hT : TS w0 o w := hTx
  have hv : Shp.vE ngB o = 0 := hvx
  have hg : g = true → Shp.aL (Shp.spB most) f o = R ∧ Shp.all o < f := hgx
  have hf : g = false → o = R := hfx
  clear hRx hTx hvx hgx hfx
  refine wp_seq (wp_seq (rs_region ?_))
  refine rs_val (.bool g) w hR rfl rfl rfl rfl (by simp [execOp, hR.get 10 rfl]) fun a hR => ?_
  refine wp_cond (hR.get 38 rfl) ?_
  cases g with
  | false =>
    rw [if_neg (by decide)]
    refine wp_exit ?_
    have := hf rfl
    subst this
    exact hQ a w (hR.sub ⟨rfl, rfl, rfl, trivial⟩) hT
  | true =>
    rw [if_pos rfl]
    refine wp_skip ?_
    obtain ⟨h1, h2⟩ := hg rfl
    obtain ⟨f, rfl⟩ : ∃ f', f = f' + 1 := ⟨f - 1, by omega⟩
    rw [Shp.aL_step] at h1
    have hl := (Shp.vE_zero hv).1.1
    have hfell := Shp.round_fell (sp := Shp.spB most) o
    have hok : Shp.vE ngB (Shp.iL (Shp.spB most) o.length 0 (o, false)).1 = 0 := Shp.iL_keep (P := fun m => Shp.vE ngB m = 0) (Shp.vE_keep ngB most) _ _ _ hv (by simp)
    refine wp_block (wp_seq (rs_region ?_))
    refine rs_val (.bool false) w hR rfl rfl rfl rfl (by simp [execOp, show a.eval (.const (.bool false)) = .bool false from rfl]) fun a hR => ?_
    obtain ⟨hdr, hs, bs, hT2⟩ := hT.th
    obtain ⟨et7, h7⟩ := hT2.h7
    obtain ⟨p, cap, hh⟩ := hdr_len hT2
    have hld : (Instr.loadAt 31 (ptr7 w0)).run Tryd.prog w = .ok hdr w := ld_run h7 rfl
    refine wp_seq (rs_region ?_)
    refine rs_val (ptr7 w0) w hR rfl rfl rfl rfl (by simp [execOp, hR.get 7 rfl, fa_run]) fun a hR => ?_
    refine rs_val hdr w hR rfl rfl rfl rfl (by simp [execOp, hR.get 39 rfl, hld]) fun a hR => ?_
    refine rs_val (.int .i64 (o.length : Nat)) w hR rfl rfl rfl rfl (by simp [execOp, resolve, invoke, hR.get 40 rfl, hh, len_runA]) fun a hR => ?_
    refine rs_val (.int .i64 (0 : Nat)) w hR rfl rfl rfl rfl (by simp [execOp, show a.eval (.const (.int .i64 0)) = .int .i64 0 from rfl]) fun a hR => ?_
    refine loopI H0 hc hl hv rfl rfl (hR.sub ⟨rfl, rfl, rfl, rfl, rfl, rfl, trivial⟩) hT fun a w hR hT => ?_
    refine ⟨(f, Shp.iL (Shp.spB most) o.length 0 (o, false)), Nat.lt_succ_self _, hR, hT, hok, fun e => ?_, fun e => ?_⟩
    · have e : (Shp.iL (Shp.spB most) o.length 0 (o, false)).2 = true := e
      rw [if_pos e] at h1
      exact ⟨h1, by have := hfell.2 e; show Shp.all (Shp.iL (Shp.spB most) o.length 0 (o, false)).1 < f; omega⟩
    · have e : (Shp.iL (Shp.spB most) o.length 0 (o, false)).2 = false := e
      rw [if_neg (by rw [e]; decide)] at h1
      exact h1
end thin
end Go.Proofs.YtcfalmdfohphoaaDoor
/-
  Thin: the walk.
-/
namespace Go.Proofs.YtcfalmdfohphoaaDoor
open Go Go.Ab Go.RowKit Mp
set_option maxRecDepth 100000
namespace thin
theorem ArcR.fzI {I : Nat → Prop} {lo : Nat} (hI : ∀ b, lo ≤ b → I b) {w : World} {v : Value} {b : Nat} {xs : Arc} (h : ArcR lo w v b xs) : FzC I w (.list SpT) xs [v] := by
  obtain ⟨cap, cs, et, L, R, rfl, hlo, h3, h4, h5, h6⟩ := h
  refine ⟨some ⟨b, 0, none⟩, cap, rfl, h3, fun i hi => ?_⟩
  have h2 := (cells_flat (I' := I) (w' := w) h6).2 i hi
  refine ⟨b, 0, _, rfl, hI b hlo, lt_of h4, h2, fun j hj => ?_⟩
  have e : ((L.drop (i * SpT.size)).take SpT.size)[j]? = some ((L.drop (i * SpT.size)).take SpT.size)[j] := List.getElem?_eq_getElem hj
  rw [List.length_take] at hj
  rw [List.getElem?_take, if_pos (by omega), List.getElem?_drop] at e
  rw [delK.cells_heap _ h4, h5, Nat.zero_add, List.getElem?_append_left (get_lt e)]
  exact e
theorem ThW.fzI {I : Nat → Prop} {lo : Nat} (hI : ∀ b, lo ≤ b → I b) {w : World} {b7 : Nat} {hdr : Value} {hs : List Value} {bs : List Nat} {outs : List Arc} (h : ThW lo w b7 hdr hs bs outs) : FzC I w MpT outs [hdr] := by
  show FzC I w (.list (.list SpT)) outs [hdr]
  have hlh := h.lh
  rcases h.arr with ⟨h1, rfl⟩ | ⟨bA, cap, cs, et, R, rfl, q2, q3, q4, q5, q6, q7, q8, q9⟩
  · have h0 : outs = [] := List.eq_nil_of_length_eq_zero (by rw [← hlh, h1]; rfl)
    subst h0
    exact ⟨none, 0, rfl, Nat.le_refl _, fun i hi => absurd hi (Nat.not_lt_zero _)⟩
  · refine ⟨some ⟨bA, 0, none⟩, cap, by rw [hlh], by rw [← hlh]; exact q7, fun i hi => ?_⟩
    have h2 := (h.arc i hi).fzI hI
    refine ⟨bA, 0, _, rfl, hI bA q2, lt_of q5, h2, fun j hj => ?_⟩
    have hj : j < 1 := hj
    obtain rfl : j = 0 := by omega
    rw [delK.cells_heap _ q5, q6]
    have hi' : i < hs.length := by rw [hlh]; exact hi
    show (hs ++ R)[0 + i * 1 + 0]? = some (hs.getD i undef)
    rw [Nat.zero_add, Nat.mul_one, Nat.add_zero, List.getElem?_append_left hi', List.getD_eq_getElem?_getD, List.getElem?_eq_getElem hi']
    rfl
theorem alloc_run (w : World) : (Instr.alloc 33 true (.tuple #[])).run Tryd.prog w = .ok (.pointer (some ⟨w.heap.size, 0, none⟩)) (w.alloc (.cells #[.slice none 0 0] 33)) := by kernel_rfl
theorem ts_nil (w : World) : TS w [] (w.alloc (.cells #[.slice none 0 0] 33)) := by
  refine ⟨⟨rfl, rfl, rfl, Nat.le_of_lt (lt_of (heap_alloc_new w _)), fun k hk => heap_alloc_old w _ hk⟩, .slice none 0 0, [], [], Nat.le_refl _, ⟨_, heap_alloc_new w _⟩, rfl, rfl, List.nodup_nil, List.not_mem_nil, .inl ⟨rfl, rfl⟩, fun j h => absurd h (Nat.not_lt_zero _)⟩
theorem list_slice {c : Cx} {m : Shp.Arcs} {hm : Value} (h : Rel c (.fz LLT m) hm) : ∃ p cap, hm = .slice p m.length cap := by
  unfold Rel at h
  obtain ⟨cs, ⟨p, cap, rfl, h1, h2⟩, hv⟩ := h
  exact ⟨p, cap, hv⟩
set_option maxHeartbeats 4000000 in
theorem thin_any (E : Errs) (m : Shp.Arcs) (most : Int) (hl : m.length ≤ 1000000000000000) (hlen : ∀ i, i < m.length → (Shp.arc m i).length ≤ 8796093022208) (K : AV → List AO → Prop)
    (hc : 0 ≤ most → SpareC (G8 E) most)
    (hK0 : Shp.vE ngB m = 0 → 0 ≤ most → K (.tup [.agg [.fz (.list (.list SpT)) (Shp.thinned most m)], .fz .raw .nilIface]) [])
    (hK1 : Shp.vE ngB m = 0 → most < 0 → K (.tup [.agg [.nilSl], .fz .raw (er E 3)]) [])
    (hK2 : Shp.vE ngB m ≠ 0 → K (.tup [.agg [.nilSl], .fz .raw (er E (Shp.vE ngB m))]) []) : ACall Tryd.prog (G8 E) 14 [.fz MpT m, .fz int most] [] K := by
  refine acall_wp (E := envAt (G8 E) 76 0) (envOk _ _ _) Tryd.func14 rfl rfl rfl rfl rfl fun cx hG a w hs => ?_
  refine wp_seg (envOk _ _ _) hG hs (σ1 := ⟨[(1, .fz int most), (2, .ptr 0 0), (4, .ptr 1 0)], [.box [.fz (.list (.list SpT)) m], .box [.nilSl]]⟩) ?_ fun a w hs => ?_
  · (repeat' (first | exact trivial | refine And.intro ?_ ?_ | (intro hb; try simp at hb) | omega | exact rfl | refine aRegion_auto (by decide +kernel) ?_ | fail))
    refine ⟨Ent.sub rfl ?_⟩
    (repeat' (first | exact trivial | exact rfl | refine And.intro ?_ ?_))
  by_cases hv : Shp.vE ngB m = 0
  case neg =>
    refine awp_sound (envOk _ _ _) cx hG _ _ _ _ _ ?_ hs
    (repeat' (first | exact trivial | refine And.intro ?_ ?_ | (intro hb; try simp at hb) | omega | exact rfl | refine aRegion_auto (by decide +kernel) ?_ | fail))
    refine acall_conv [.dat MpT] _ _ _ rfl trivial (acall_frame0 rfl (valid_any E m hl hlen _ ?_))
    have hK := hK2 hv
    have hle := Shp.vE_le ngB m
    obtain ⟨e, he⟩ : ∃ e, Shp.vE ngB m = e := ⟨_, rfl⟩
    rw [he] at hK hv hle ⊢
    have hd : e = 2 ∨ e = 3 ∨ e = 7 := by
      unfold Shp.vE at he
      split at he
      · omega
      · split at he
        · omega
        · split at he <;> omega
    rcases hd with rfl | rfl | rfl
    · (repeat' (first | exact trivial | refine And.intro ?_ ?_ | (intro hb; try simp at hb) | omega | exact rfl | refine aRegion_auto (by decide +kernel) ?_ | refine ⟨_, _, REnt.drop ⟨rfl, rfl⟩, ?_⟩ | fail))
      exact hK
    · (repeat' (first | exact trivial | refine And.intro ?_ ?_ | (intro hb; try simp at hb) | omega | exact rfl | refine aRegion_auto (by decide +kernel) ?_ | refine ⟨_, _, REnt.drop ⟨rfl, rfl⟩, ?_⟩ | fail))
      exact hK
    · (repeat' (first | exact trivial | refine And.intro ?_ ?_ | (intro hb; try simp at hb) | omega | exact rfl | refine aRegion_auto (by decide +kernel) ?_ | refine ⟨_, _, REnt.drop ⟨rfl, rfl⟩, ?_⟩ | fail))
      exact hK
  refine wp_seg (envOk _ _ _) hG hs (σ1 := ⟨[(1, .fz int most), (2, .ptr 0 0), (4, .ptr 1 0)], [.box [.fz (.list (.list SpT)) m], .box [.nilSl]]⟩) ?_ fun a w hs => ?_
  · (repeat' (first | exact trivial | refine And.intro ?_ ?_ | (intro hb; try simp at hb) | omega | exact rfl | refine aRegion_auto (by decide +kernel) ?_ | fail))
    refine acall_conv [.dat MpT] _ _ _ rfl trivial (acall_frame0 rfl (valid_any E m hl hlen _ ?_))
    rw [hv]
    (repeat' (first | exact trivial | refine And.intro ?_ ?_ | (intro hb; try simp at hb) | omega | exact rfl | refine aRegion_auto (by decide +kernel) ?_ | fail))
    refine ⟨Ent.sub rfl ?_⟩
    (repeat' (first | exact trivial | exact rfl | refine And.intro ?_ ?_))
  by_cases hm : most < 0
  · refine awp_sound (envOk _ _ _) cx hG _ _ _ _ _ ?_ hs
    (repeat' (first | exact trivial | refine And.intro ?_ ?_ | (intro hb; try simp at hb) | omega | exact rfl | refine aRegion_auto (by decide +kernel) ?_ | refine ⟨_, _, REnt.drop ⟨rfl, rfl⟩, ?_⟩ | fail))
    (apply exEff; focus (repeat' (first | exact ⟨rfl, rfl⟩ | exact trivial | refine And.intro ?_ ?_ | omega | exact Nat.le_refl _ | (show _ + 1 ≤ 4294967296; omega) | (show _ + 1 ≤ 5864062014634; omega))))
    (repeat' (first | exact trivial | refine And.intro ?_ ?_ | (intro hb; try simp at hb) | omega | exact rfl | refine aRegion_auto (by decide +kernel) ?_ | refine ⟨_, _, REnt.drop ⟨rfl, rfl⟩, ?_⟩ | fail))
    exact hK1 hv hm
  refine wp_seg (envOk _ _ _) hG hs (σ1 := ⟨[(1, .fz int most), (2, .ptr 0 0), (4, .ptr 1 0)], [.box [.fz (.list (.list SpT)) m], .box [.nilSl]]⟩) ?_ fun a w hs => ?_
  · (repeat' (first | exact trivial | refine And.intro ?_ ?_ | (intro hb; try simp at hb) | omega | exact rfl | refine aRegion_auto (by decide +kernel) ?_ | fail))
    refine ⟨Ent.sub rfl ?_⟩
    (repeat' (first | exact trivial | exact rfl | refine And.intro ?_ ?_))
  obtain ⟨c, rfl, hA, H, hT, hE, hd, hN⟩ := hs
  have hA : c.A = [.box [.fz (.list (.list SpT)) m], .box [.nilSl]] := hA
  have hG' : c.G = G8 E := hE.G.trans hG
  have H0 : HR (Cx.start (G8 E) c.w) := ⟨fun t b h => by obtain ⟨o, h1, _⟩ := h; simp [Cx.start] at h1, fun t u b h => by obtain ⟨o, h1, _⟩ := h; simp [Cx.start] at h1,
    fun t o h => by simp [Cx.start] at h, fun b h => h.elim, fun g v h => GloOk.mono (c := c) (c' := Cx.start (G8 E) c.w) (fun b _ _ => ⟨start_I b, rfl⟩) (H.glo g v (by rw [hG']; exact h))⟩
  have t1 : a.tmps.getD 1 undef = .int .i64 most := rel_int.1 (hT 1)
  obtain ⟨b2, r2, t2⟩ : ∃ b, c.ρ 0 = some b ∧ a.tmps.getD 2 undef = .pointer (some ⟨b, 0, none⟩) := by
    have h : Rel c (.ptr 0 0) (a.tmps.getD 2 undef) := hT 2
    unfold Rel at h
    rw [hA] at h
    exact h
  obtain ⟨hm, et, h2, hmr⟩ : ∃ hm et, c.w.heap[b2]? = some (.cells #[hm] et (0, 0)) ∧ Rel c (.fz (.list (.list SpT)) m) hm := by
    obtain ⟨b, cs, et, k1, k2, k3⟩ := H.obj 0 (.box [.fz (.list (.list SpT)) m]) (by rw [hA]; rfl)
    rw [r2] at k1
    cases k1
    unfold RelL at k3
    obtain ⟨v, r, rfl, k4, k5⟩ := k3
    unfold RelL at k5
    subst k5
    exact ⟨v, et, k2, k4⟩
  have hmr : Rel (Cx.start (G8 E) c.w) (.fz LLT m) hm := tf_start (c := c) rfl hmr
  obtain ⟨p4, t4⟩ : ∃ p4, a.tmps.getD 4 undef = p4 := ⟨_, rfl⟩
  have h4 : Rel c (.ptr 1 0) p4 := by rw [← t4]; exact hT 4
  have hR : RS 76 [(1, .int .i64 most), (2, .pointer (some ⟨b2, 0, none⟩)), (4, p4)] a := ⟨fun t v e => by
    have := lkV_mem e
    simp only [List.mem_cons, Prod.mk.injEq, List.not_mem_nil, or_false] at this
    rcases this with ⟨rfl, rfl⟩ | ⟨rfl, rfl⟩ | ⟨rfl, rfl⟩
    · exact t1
    · exact t2
    · exact t4, hd, hN⟩
  show (Code.seq _ _).wp Tryd.prog _ _ _
  refine wp_seq (rs_region (L := r6) ?_)
  refine rs_val (ptr7 c.w) (c.w.alloc (.cells #[.slice none 0 0] 33)) hR rfl rfl rfl rfl (by simp [execOp, alloc_run]) fun a hR => ?_
  have hT0 := ts_nil c.w
  obtain ⟨p, cap, hms⟩ := list_slice hmr
  refine wp_seq (wp_seq (rs_region (L := r7) ?_))
  refine rs_val (.pointer (some ⟨b2, 0, none⟩)) (c.w.alloc (.cells #[.slice none 0 0] 33)) hR rfl rfl rfl rfl (by simp [execOp, hR.get 2 rfl, fa_run]) fun a hR => ?_
  have hld : (Instr.loadAt 31 (.pointer (some ⟨b2, 0, none⟩))).run Tryd.prog (c.w.alloc (.cells #[.slice none 0 0] 33)) = .ok hm (c.w.alloc (.cells #[.slice none 0 0] 33)) := ld_run ((heap_alloc_old c.w _ (lt_of h2)).trans h2) rfl
  refine rs_val hm (c.w.alloc (.cells #[.slice none 0 0] 33)) hR rfl rfl rfl rfl (by simp [execOp, hR.get 23 rfl, hld]) fun a hR => ?_
  refine rs_val (.int .i64 (m.length : Nat)) (c.w.alloc (.cells #[.slice none 0 0] 33)) hR rfl rfl rfl rfl (by simp [execOp, resolve, invoke, hR.get 24 rfl, hms, len_runA]) fun a hR => ?_
  refine rs_val (.int .i64 (0 : Nat)) (c.w.alloc (.cells #[.slice none 0 0] 33)) hR rfl rfl rfl rfl (by simp [execOp, show a.eval (.const (.int .i64 0)) = .int .i64 0 from rfl]) fun a hR => ?_
  have hz := Shp.vE_zero hv
  refine loop1 (G := G8 E) H0 hmr hz.1.1 (fun i hi => ⟨(Shp.right_of hv).two i hi, arc_le hv hi⟩) (v1 := .int .i64 most) (p4 := p4) (hR.sub ⟨rfl, rfl, rfl, rfl, rfl, rfl, trivial⟩) hT0 fun a w hR hT => ?_
  refine wp_seq (wp_seq (rs_region (L := r12) ?_))
  refine rs_val (.bool true) w hR rfl rfl rfl rfl (by simp [execOp, show a.eval (.const (.bool true)) = .bool true from rfl]) fun a hR => ?_
  refine loopA (G := G8 E) H0 (hc (by omega)) hv (p4 := p4) (hR.sub ⟨rfl, rfl, rfl, rfl, trivial⟩) hT fun a w hR hT => ?_
  have hK := hK0 hv (by omega)
  obtain ⟨out, ho⟩ : ∃ out, Shp.thinned most m = out := ⟨_, rfl⟩
  rw [ho] at hT hK
  obtain ⟨hB, hdr, hs, bs, hT2⟩ := hT
  obtain ⟨k1, k2⟩ := below_ext H hB
  have hI : ∀ b, c.w.heap.size ≤ b → ({ c with w := w } : Cx).I b := fun b hb => ⟨fun hx => by have := H.old b hx; omega, fun t hl hr => by have := H.lt hl hr; omega⟩
  have hs : Sim 0 cx 76 ⟨[(4, .ptr 1 0), (7, .fptr MpT out)], [.box [.fz (.list (.list SpT)) m], .box [.nilSl]]⟩ a w := by
    refine ⟨{ c with w := w }, rfl, hA, k2, fun n => ?_, hE.trans (k1.toN' (Nat.zero_le _)), hR.d, hR.n⟩
    unfold lk
    by_cases c4 : 4 = n
    · subst c4
      rw [if_pos rfl, hR.ev 4 p4 rfl]
      exact h4.ext k1
    · rw [if_neg c4]
      unfold lk
      by_cases c7 : 7 = n
      · subst c7
        rw [if_pos rfl, hR.ev 7 _ rfl]
        obtain ⟨et7, h7⟩ := hT2.h7
        unfold Rel
        refine ⟨c.w.heap.size, 0, [hdr], rfl, hI _ (Nat.le_refl _), lt_of h7, hT2.fzI hI, fun j hj => ?_⟩
        have hj : j < 1 := hj
        obtain rfl : j = 0 := by omega
        show w.cell? ⟨c.w.heap.size, 0, none⟩ = some hdr
        rw [delK.cells_heap _ h7]; rfl
      · rw [if_neg c7]
        exact rel_unk
  refine awp_sound (envOk _ _ _) cx hG _ _ _ _ _ ?_ hs
  (repeat' (first | exact trivial | refine And.intro ?_ ?_ | (intro hb; try simp at hb) | omega | exact rfl | refine aRegion_auto (by decide +kernel) ?_ | refine ⟨_, _, REnt.drop ⟨rfl, rfl⟩, ?_⟩ | fail))
  exact hK
end thin
end Go.Proofs.YtcfalmdfohphoaaDoor
/-
  Can a point be left out: the walk.
-/
namespace Go.Proofs.YtcfalmdfohphoaaDoor
open Go Go.Ab Mp
set_option maxRecDepth 100000
set_option maxHeartbeats 8000000 in
theorem spare_any (G : List (Nat × Value)) (m : Shp.Arcs) (B : MB m) (i k : Nat) (hi : i < m.length) (h0 : 0 < k) (hk : k + 1 < (Shp.arc m i).length) (most : Int) (hm0 : 0 ≤ most) (hm1 : most ≤ 9223372036854775807) (K : AV → List AO → Prop) (hK : K (.fz .bool (Shp.spB most m i k)) []) :
    ACall Tryd.prog G 31 [.fz MpT m, .fz int i, .fz int k, .fz int most] [] K := by
  have hb0 := B.few
  have hai := B.len i hi
  obtain ⟨a, ha⟩ : ∃ a, Shp.arc m i = a := ⟨_, rfl⟩
  have hg : List.getD m (Int.toNat (i : Int)) SpT.list.dft = a := ha
  have hpl : ∀ t, t < a.length → plB (Shp.at_ a t) = true := fun t ht => by
    have := B.pl i t ⟨hi, by rw [ha]; exact ht⟩
    unfold Shp.pt at this
    rw [ha] at this
    exact this
  rw [ha] at hk hai
  refine acall_mk (E := envCut G 153 0 [3, 6, 13]) (envCutOk _ _ _ _) Tryd.func31 rfl rfl rfl rfl rfl ?_
  (repeat' (first | exact trivial | refine And.intro ?_ ?_ | (intro hb; try simp at hb) | omega | exact rfl | refine aRegion_auto (by decide +kernel) ?_ | fail))
  obtain ⟨p, hp⟩ : ∃ p, Shp.at_ a (k - 1) = p := ⟨_, rfl⟩
  obtain ⟨q, hq⟩ : ∃ q, Shp.at_ a k = q := ⟨_, rfl⟩
  obtain ⟨r, hr⟩ : ∃ r, Shp.at_ a (k + 1) = r := ⟨_, rfl⟩
  have e1 : List.getD a (Int.toNat ((k : Int) - 1)) SpT.dft = p := by rw [← hp, show Int.toNat ((k : Int) - 1) = k - 1 by omega]; rfl
  have e2 : List.getD a (Int.toNat (k : Int)) SpT.dft = q := hq
  have e3 : List.getD a (Int.toNat ((k : Int) + 1)) SpT.dft = r := hr
  let M : AO := .box [.fz (.list (.list SpT)) m]
  let rb : AO := .room
  let bz : AO := .box [.fz int 0, .fz int 0]
  let gp : Int × Int := List.getD a (Int.toNat ((k : Int) - 1)) SpT.dft
  let gq : Int × Int := List.getD a (Int.toNat (k : Int)) SpT.dft
  let gr : Int × Int := List.getD a (Int.toNat ((k : Int) + 1)) SpT.dft
  let bp : AO := .box [.fz int gp.1, .fz int gp.2]
  let bq : AO := .box [.fz int gq.1, .fz int gq.2]
  let br : AO := .box [.fz int gr.1, .fz int gr.2]
  rw [hg]
  refine aRegion_open 3 (by decide +kernel) ?_
  (repeat' (first | exact trivial | exact fun h => h | refine And.intro ?_ ?_ | (intro hb; try simp at hb) | omega | exact rfl | exact Nat.le_refl _ | (show _ + 1 ≤ 4294967296; omega) | (show _ + 1 ≤ 5864062014634; omega) | (dsimp only; omega) | (show (_ : Int) ≤ (_ : Int); omega) | (show _ < List.length _; simp only [List.length_set, List.length_append, List.length_take]; omega) | (show wantB _ _ = true; simp <;> omega) | (show (_ : Bool) = _; simp_all; done) | (exfalso; omega) | refine aRegion_auto (by decide +kernel) ?_ | fail))
  refine eff_is (.ptr 1 0) [M, bz, rb, rb] ?_
  (repeat' (first | exact trivial | exact fun h => h | refine And.intro ?_ ?_ | (intro hb; try simp at hb) | omega | exact rfl | exact Nat.le_refl _ | (show _ + 1 ≤ 4294967296; omega) | (show _ + 1 ≤ 5864062014634; omega) | (dsimp only; omega) | (show (_ : Int) ≤ (_ : Int); omega) | (show _ < List.length _; simp only [List.length_set, List.length_append, List.length_take]; omega) | (show wantB _ _ = true; simp <;> omega) | (show (_ : Bool) = _; simp_all; done) | (exfalso; omega) | refine aRegion_auto (by decide +kernel) ?_ | fail))
  refine eff_is (.ptr 2 0) [M, bz, bz, rb] ?_
  (repeat' (first | exact trivial | exact fun h => h | refine And.intro ?_ ?_ | (intro hb; try simp at hb) | omega | exact rfl | exact Nat.le_refl _ | (show _ + 1 ≤ 4294967296; omega) | (show _ + 1 ≤ 5864062014634; omega) | (dsimp only; omega) | (show (_ : Int) ≤ (_ : Int); omega) | (show _ < List.length _; simp only [List.length_set, List.length_append, List.length_take]; omega) | (show wantB _ _ = true; simp <;> omega) | (show (_ : Bool) = _; simp_all; done) | (exfalso; omega) | refine aRegion_auto (by decide +kernel) ?_ | fail))
  refine eff_is (.ptr 3 0) [M, bz, bz, bz] ?_
  (repeat' (first | exact trivial | exact fun h => h | refine And.intro ?_ ?_ | (intro hb; try simp at hb) | omega | exact rfl | exact Nat.le_refl _ | (show _ + 1 ≤ 4294967296; omega) | (show _ + 1 ≤ 5864062014634; omega) | (dsimp only; omega) | (show (_ : Int) ≤ (_ : Int); omega) | (show _ < List.length _; simp only [List.length_set, List.length_append, List.length_take]; omega) | (show wantB _ _ = true; simp <;> omega) | (show (_ : Bool) = _; simp_all; done) | (exfalso; omega) | refine aRegion_auto (by decide +kernel) ?_ | fail))
  refine eff_is .unk [M, bp, bz, bz] ?_
  (repeat' (first | exact trivial | exact fun h => h | refine And.intro ?_ ?_ | (intro hb; try simp at hb) | omega | exact rfl | exact Nat.le_refl _ | (show _ + 1 ≤ 4294967296; omega) | (show _ + 1 ≤ 5864062014634; omega) | (dsimp only; omega) | (show (_ : Int) ≤ (_ : Int); omega) | (show _ < List.length _; simp only [List.length_set, List.length_append, List.length_take]; omega) | (show wantB _ _ = true; simp <;> omega) | (show (_ : Bool) = _; simp_all; done) | (exfalso; omega) | refine aRegion_auto (by decide +kernel) ?_ | fail))
  refine eff_is .unk [M, bp, bq, bz] ?_
  (repeat' (first | exact trivial | exact fun h => h | refine And.intro ?_ ?_ | (intro hb; try simp at hb) | omega | exact rfl | exact Nat.le_refl _ | (show _ + 1 ≤ 4294967296; omega) | (show _ + 1 ≤ 5864062014634; omega) | (dsimp only; omega) | (show (_ : Int) ≤ (_ : Int); omega) | (show _ < List.length _; simp only [List.length_set, List.length_append, List.length_take]; omega) | (show wantB _ _ = true; simp <;> omega) | (show (_ : Bool) = _; simp_all; done) | (exfalso; omega) | refine aRegion_auto (by decide +kernel) ?_ | fail))
  refine eff_is .unk [M, bp, bq, br] ?_
  refine ⟨[(0, [M, rb, rb, rb]), (16384, [M, bz, rb, rb]), (32768, [M, rb, bz, rb]), (49152, [M, bz, bz, rb]), (65536, [M, rb, rb, bz]), (81920, [M, bz, rb, bz]), (98304, [M, rb, bz, bz]), (114688, [M, bz, bz, bz]), (245760, [M, bp, bz, bz]), (507904, [M, bp, bq, bz]), (1032192, [M, bp, bq, br])], rfl, rfl, ?_, ?_⟩
  · (repeat' (first | refine And.intro ?_ ?_ | exact trivial | exact rfl | omega))
    all_goals first
      | (refine view_of [0, 4, 2, 3] rfl ?_ rfl rfl; (repeat' (first | exact trivial | exact rfl | refine And.intro ?_ ?_)); done)
      | (refine view_of [0, 1, 4, 3] rfl ?_ rfl rfl; (repeat' (first | exact trivial | exact rfl | refine And.intro ?_ ?_)); done)
      | (refine view_of [0, 1, 2, 4] rfl ?_ rfl rfl; (repeat' (first | exact trivial | exact rfl | refine And.intro ?_ ?_)); done)
      | (refine view_of [0, 1, 2, 3] rfl ?_ rfl rfl; (repeat' (first | exact trivial | exact rfl | refine And.intro ?_ ?_)); done)
  · have pp : plB p = true := by rw [← hp]; exact hpl _ (by omega)
    have pq : plB q = true := by rw [← hq]; exact hpl _ (by omega)
    have pr : plB r = true := by rw [← hr]; exact hpl _ (by omega)
    refine ⟨[(1, .fz int i), (2, .fz int k), (3, .fz int most), (4, .ptr 0 0), (9, .fz (.list SpT) a), (10, .ptr 1 0), (11, .ptr 2 0), (12, .ptr 3 0)], [M, .box [.fz int p.1, .fz int p.2], .box [.fz int q.1, .fz int q.2], .box [.fz int r.1, .fz int r.2]], Ent.sub (by rw [← e1, ← e2, ← e3]) ?_, ?_⟩
    · (repeat' (first | exact trivial | exact rfl | refine And.intro ?_ ?_))
    have hno : ¬ Shp.spP m i k most → K (.fz .bool false) [] := fun h => by
      have e : Shp.spB most m i k = false := Bool.eq_false_iff.2 fun c => h (Shp.spB_iff.1 c)
      rw [e] at hK; exact hK
    have hyes : Shp.spP m i k most → K (.fz .bool true) [] := fun h => by
      rw [Shp.spB_iff.2 h] at hK; exact hK
    clear hK
    have hsp : Shp.spP m i k most ↔ (¬ most < Shp.side p q r ∧ ¬ Shp.side p q r < -most) ∧ ¬ (Shp.at_ a 0 = Shp.at_ a (a.length - 1) ∧ a.length < 5) ∧
        (∀ j t, Shp.inM m j t → ¬ (j = i ∧ k ≤ t + 1 ∧ t ≤ k + 1) → Shp.pt m j t ≠ p → Shp.pt m j t ≠ r → Shp.tri p q r (Shp.pt m j t) = false) ∧
        (∀ j n, Shp.isP m j n → ¬ (j = i ∧ (n = k ∨ n + 1 = k)) → Shp.meet p r (Shp.pt m j n) (Shp.pt m j (n + 1)) = false) := by
      unfold Shp.spP Shp.fits
      have h1 : Shp.pt m i (k - 1) = p := by unfold Shp.pt; rw [ha]; exact hp
      have h2 : Shp.pt m i k = q := by unfold Shp.pt; rw [ha]; exact hq
      have h3 : Shp.pt m i (k + 1) = r := by unfold Shp.pt; rw [ha]; exact hr
      rw [h1, h2, h3, ha]
    rw [hsp] at hno hyes
    clear hsp
    (repeat' (first | exact trivial | exact fun h => h | refine And.intro ?_ ?_ | (intro hb; try simp at hb) | omega | exact rfl | exact Nat.le_refl _ | (show _ + 1 ≤ 4294967296; omega) | (show _ + 1 ≤ 5864062014634; omega) | (dsimp only; omega) | (show (_ : Int) ≤ (_ : Int); omega) | (show _ < List.length _; simp only [List.length_set, List.length_append, List.length_take]; omega) | (show wantB _ _ = true; simp <;> omega) | (show (_ : Bool) = _; simp_all; done) | (exfalso; omega) | refine aRegion_auto (by decide +kernel) ?_ | fail))
    refine acall_conv [.dat SpT, .dat SpT, .dat SpT] _ _ _ rfl trivial (acall_frame0 rfl (side_any G p q r pp pq pr _ ?_))
    generalize Shp.side p q r = n at hno hyes
    have hz0 : (a[0]?.getD SpT.dft) = Shp.at_ a 0 := by unfold Shp.at_; rw [List.getD_eq_getElem?_getD]; rfl
    have hz1 : (a[a.length - 1]?.getD SpT.dft) = Shp.at_ a (a.length - 1) := by unfold Shp.at_; rw [List.getD_eq_getElem?_getD]; rfl
    by_cases hc : (¬ most < n ∧ ¬ n < -most) ∧ ¬ (Shp.at_ a 0 = Shp.at_ a (a.length - 1) ∧ a.length < 5)
    case neg =>
      have hK := hno (fun h => hc ⟨h.1, h.2.1⟩)
      (repeat' (first | exact trivial | exact fun h => h | refine And.intro ?_ ?_ | (intro hb; try simp at hb) | omega | exact rfl | exact Nat.le_refl _ | (show _ + 1 ≤ 4294967296; omega) | (show _ + 1 ≤ 5864062014634; omega) | (dsimp only; omega) | (show (_ : Int) ≤ (_ : Int); omega) | (show _ < List.length _; simp only [List.length_set, List.length_append, List.length_take]; omega) | (show wantB _ _ = true; simp <;> omega) | (show (_ : Bool) = _; simp_all; done) | (exfalso; omega) | refine aRegion_auto (by decide +kernel) ?_ | refine ⟨_, _, REnt.drop ⟨rfl, rfl⟩, ?_⟩ | fail))
      · exact hK
      · rw [hz0, hz1, eqS, decide_eq_true_iff] at hb
        exfalso
        refine hc ⟨by omega, fun h => ?_⟩
        have := hb.2 h.1
        omega
    (repeat' (first | exact trivial | exact fun h => h | refine And.intro ?_ ?_ | (intro hb; try simp at hb) | omega | exact rfl | exact Nat.le_refl _ | (show _ + 1 ≤ 4294967296; omega) | (show _ + 1 ≤ 5864062014634; omega) | (dsimp only; omega) | (show (_ : Int) ≤ (_ : Int); omega) | (show _ < List.length _; simp only [List.length_set, List.length_append, List.length_take]; omega) | (show wantB _ _ = true; simp <;> omega) | (show (_ : Bool) = _; simp_all; done) | (exfalso; omega) | refine aRegion_auto (by decide +kernel) ?_ | refine ⟨_, _, REnt.drop ⟨rfl, rfl⟩, ?_⟩ | fail))
    · rw [hz0, hz1, eqS, decide_eq_true_iff] at hb
      exfalso
      rcases hb with hb | hb
      · have := hc.1; omega
      · exact hc.2 ⟨hb.1, by omega⟩
    have hno : ¬ ((∀ j t, Shp.inM m j t → ¬ (j = i ∧ k ≤ t + 1 ∧ t ≤ k + 1) → Shp.pt m j t ≠ p → Shp.pt m j t ≠ r → Shp.tri p q r (Shp.pt m j t) = false) ∧
        (∀ j n, Shp.isP m j n → ¬ (j = i ∧ (n = k ∨ n + 1 = k)) → Shp.meet p r (Shp.pt m j n) (Shp.pt m j (n + 1)) = false)) → K (.fz .bool false) [] := fun h => hno fun c => h c.2.2
    have hyes := fun h => hyes ⟨hc.1, hc.2, h⟩
    clear hc
    refine ⟨[(1, .fz int i), (2, .fz int k), (4, .ptr 0 0), (10, .ptr 1 0), (11, .ptr 2 0), (12, .ptr 3 0)], [M, .box [.fz int p.1, .fz int p.2], .box [.fz int q.1, .fz int q.2], .box [.fz int r.1, .fz int r.2]], Ent.sub rfl ?_, ?_⟩
    · (repeat' (first | exact trivial | exact rfl | refine And.intro ?_ ?_))
    (repeat' (first | exact trivial | exact fun h => h | refine And.intro ?_ ?_ | (intro hb; try simp at hb) | omega | exact rfl | exact Nat.le_refl _ | (show _ + 1 ≤ 4294967296; omega) | (show _ + 1 ≤ 5864062014634; omega) | (dsimp only; omega) | (show (_ : Int) ≤ (_ : Int); omega) | (show _ < List.length _; simp only [List.length_set, List.length_append, List.length_take]; omega) | (show wantB _ _ = true; simp <;> omega) | (show (_ : Bool) = _; simp_all; done) | (exfalso; omega) | refine aRegion_auto (by decide +kernel) ?_ | fail))
    let Ok : Nat → Nat → Prop := fun j t => Shp.inM m j t → ¬ (j = i ∧ k ≤ t + 1 ∧ t ≤ k + 1) → Shp.pt m j t ≠ p → Shp.pt m j t ≠ r → Shp.tri p q r (Shp.pt m j t) = false
    let BX : List AO := [.box [.fz (.list (.list SpT)) m], .box [.fz int p.1, .fz int p.2], .box [.fz int q.1, .fz int q.2], .box [.fz int r.1, .fz int r.2]]
    refine ⟨Nat, fun j => ⟨[(1, .fz int i), (2, .fz int k), (4, .ptr 0 0), (10, .ptr 1 0), (11, .ptr 2 0), (12, .ptr 3 0), (71, .fz (.list (.list SpT)) m), (72, .fz int m.length), (73, .fz int j)], BX⟩, fun j => j ≤ m.length ∧ ∀ j', j' < j → ∀ t, Ok j' t, fun j => m.length - j, 0, ⟨Nat.zero_le _, fun _ h => absurd h (Nat.not_lt_zero _)⟩, Ent.sub rfl ?_, ?_⟩
    · (repeat' (first | exact trivial | exact rfl | refine And.intro ?_ ?_))
    intro j ⟨hj, hjs⟩
    have hj : j ≤ m.length := hj
    have hjs : ∀ j', j' < j → ∀ t, Ok j' t := hjs
    show awp _ _ _ ⟨[(1, .fz int i), (2, .fz int k), (4, .ptr 0 0), (10, .ptr 1 0), (11, .ptr 2 0), (12, .ptr 3 0), (71, .fz (.list (.list SpT)) m), (72, .fz int m.length), (73, .fz int j)], [.box [.fz (.list (.list SpT)) m], .box [.fz int p.1, .fz int p.2], .box [.fz int q.1, .fz int q.2], .box [.fz int r.1, .fz int r.2]]⟩
    by_cases hjl : j < m.length
    · have hbl := B.len j hjl
      obtain ⟨b, hbd⟩ : ∃ b, Shp.arc m j = b := ⟨_, rfl⟩
      have hgb : List.getD m (Int.toNat (j : Int)) SpT.list.dft = b := hbd
      rw [hbd] at hbl
      (repeat' (first | exact trivial | exact fun h => h | refine And.intro ?_ ?_ | (intro hb; try simp at hb) | omega | exact rfl | exact Nat.le_refl _ | (show _ + 1 ≤ 4294967296; omega) | (show _ + 1 ≤ 5864062014634; omega) | (dsimp only; omega) | (show (_ : Int) ≤ (_ : Int); omega) | (show _ < List.length _; simp only [List.length_set, List.length_append, List.length_take]; omega) | (show wantB _ _ = true; simp <;> omega) | (show (_ : Bool) = _; simp_all; done) | (exfalso; omega) | refine aRegion_auto (by decide +kernel) ?_ | fail))
      refine ⟨Nat, fun t => ⟨[(1, .fz int i), (2, .fz int k), (4, .ptr 0 0), (10, .ptr 1 0), (11, .ptr 2 0), (12, .ptr 3 0), (14, .fz int j), (71, .fz (.list (.list SpT)) m), (72, .fz int m.length), (73, .fz int j), (78, .fz (.list SpT) b), (79, .fz int b.length), (80, .fz int t)], BX⟩, fun t => t ≤ b.length ∧ ∀ t', t' < t → Ok j t', fun t => b.length - t, 0, ⟨Nat.zero_le _, fun _ h => absurd h (Nat.not_lt_zero _)⟩, Ent.sub rfl ?_, ?_⟩
      · (repeat' (first | exact trivial | exact rfl | refine And.intro ?_ ?_))
        · exact congrArg (fun l => AV.fz (.list SpT) l) hgb
        · exact congrArg (fun l : List (Int × Int) => AV.fz int (l.length : Int)) hgb
      intro t ⟨ht, hts⟩
      have ht : t ≤ b.length := ht
      have hts : ∀ t', t' < t → Ok j t' := hts
      show awp _ _ _ ⟨[(1, .fz int i), (2, .fz int k), (4, .ptr 0 0), (10, .ptr 1 0), (11, .ptr 2 0), (12, .ptr 3 0), (14, .fz int j), (71, .fz (.list (.list SpT)) m), (72, .fz int m.length), (73, .fz int j), (78, .fz (.list SpT) b), (79, .fz int b.length), (80, .fz int t)], [.box [.fz (.list (.list SpT)) m], .box [.fz int p.1, .fz int p.2], .box [.fz int q.1, .fz int q.2], .box [.fz int r.1, .fz int r.2]]⟩
      by_cases htl : t < b.length
      · obtain ⟨x, hx⟩ : ∃ x, Shp.at_ b t = x := ⟨_, rfl⟩
        have hgx : List.getD b (Int.toNat (t : Int)) SpT.dft = x := hx
        have px : plB x = true := by
          have := B.pl j t ⟨hjl, by rw [hbd]; exact htl⟩
          unfold Shp.pt at this
          rw [hbd, hx] at this
          exact this
        have hpx : Shp.pt m j t = x := by unfold Shp.pt; rw [hbd]; exact hx
        have hin : Shp.inM m j t := ⟨hjl, by rw [hbd]; exact htl⟩
        obtain ⟨mine, hmine⟩ : ∃ mine, mine = decide (j = i ∧ k ≤ t + 1 ∧ t ≤ k + 1) := ⟨_, rfl⟩
        (repeat' (first | exact trivial | exact fun h => h | refine And.intro ?_ ?_ | (intro hb; try simp at hb) | omega | exact rfl | exact Nat.le_refl _ | (show _ + 1 ≤ 4294967296; omega) | (show _ + 1 ≤ 5864062014634; omega) | (dsimp only; omega) | (show (_ : Int) ≤ (_ : Int); omega) | (show _ < List.length _; simp only [List.length_set, List.length_append, List.length_take]; omega) | (show wantB _ _ = true; simp <;> omega) | (show (_ : Bool) = _; simp_all; done) | (exfalso; omega) | refine aRegion_auto (by decide +kernel) ?_ | fail))
        refine ⟨[(1, .fz int i), (2, .fz int k), (4, .ptr 0 0), (10, .ptr 1 0), (11, .ptr 2 0), (12, .ptr 3 0), (14, .fz int j), (17, .ptr 4 0), (18, .fz .bool mine), (71, .fz (.list (.list SpT)) m), (72, .fz int m.length), (73, .fz int j), (78, .fz (.list SpT) b), (79, .fz int b.length), (80, .fz int t)], [.box [.fz (.list (.list SpT)) m], .box [.fz int p.1, .fz int p.2], .box [.fz int q.1, .fz int q.2], .box [.fz int r.1, .fz int r.2], .box [.fz int x.1, .fz int x.2]], Ent.sub (by rw [← hgx]) ?_, ?_⟩
        · (repeat' (first | exact trivial | exact rfl | refine And.intro ?_ ?_))
          refine congrArg (AV.fz .bool) (?_ : (bif bif ((j : Int) == (i : Int)) then decide ((k : Int) - 1 ≤ (t : Int)) else false then decide ((t : Int) ≤ (k : Int) + 1) else false) = mine)
          rw [hmine, Bool.eq_iff_iff]
          simp
          omega
        · have eP : eqL [x.1, x.2] [p.1, p.2] = decide (x = p) := eqS _ _
          have eR : eqL [x.1, x.2] [r.1, r.2] = decide (x = r) := eqS _ _
          by_cases hw : mine = false ∧ x ≠ p ∧ x ≠ r
          case neg =>
            have hF : (bif bif !mine then !eqL [x.1, x.2] [p.1, p.2] else false then !eqL [x.1, x.2] [r.1, r.2] else false) = false := by
              rw [eP, eR]
              cases mine
              · by_cases c1 : x = p
                · simp [c1]
                · by_cases c2 : x = r
                  · simp [c2]
                  · exact absurd ⟨rfl, c1, c2⟩ hw
              · rfl
            have hOk : Ok j t := fun _ h1 h2 h3 => by
              rw [hpx] at h2 h3
              exact absurd ⟨by rw [hmine]; exact decide_eq_false h1, h2, h3⟩ hw
            (repeat' (first | exact trivial | exact fun h => h | refine And.intro ?_ ?_ | (intro hb; try simp at hb) | omega | exact rfl | exact Nat.le_refl _ | (show _ + 1 ≤ 4294967296; omega) | (show _ + 1 ≤ 5864062014634; omega) | (dsimp only; omega) | (show (_ : Int) ≤ (_ : Int); omega) | (show _ < List.length _; simp only [List.length_set, List.length_append, List.length_take]; omega) | (show wantB _ _ = true; simp <;> omega) | (show (_ : Bool) = _; simp_all; done) | (exfalso; omega) | refine aRegion_auto (by decide +kernel) ?_ | fail))
            all_goals first
              | exact hF
              | (exfalso; rw [eP, eR] at hb; simp at hb; exact hw ⟨hb.1.1, hb.1.2, hb.2⟩)
              | skip
            refine ⟨t + 1, ⟨by show t + 1 ≤ b.length; omega, fun t' h' => ?_⟩, by show b.length - (t + 1) < b.length - t; omega, Ent.ren [0, 1, 2, 3] rfl ?_ ?_⟩
            · by_cases c : t' = t
              · rw [c]; exact hOk
              · exact hts t' (by have h' : t' < t + 1 := h'; omega)
            · (repeat' (first | exact trivial | exact rfl | refine And.intro ?_ ?_))
            · (repeat' (first | exact trivial | exact rfl | refine And.intro ?_ ?_))
          · have hF : (bif bif !mine then !eqL [x.1, x.2] [p.1, p.2] else false then !eqL [x.1, x.2] [r.1, r.2] else false) = true := by
              rw [eP, eR, hw.1]
              simp [hw.2.1, hw.2.2]
            have hw1 : ¬ (j = i ∧ k ≤ t + 1 ∧ t ≤ k + 1) := of_decide_eq_false (hmine ▸ hw.1)
            have hia := in_any G p q r x pp pq pr px
            (repeat' (first | exact trivial | exact fun h => h | refine And.intro ?_ ?_ | (intro hb; try simp at hb) | omega | exact rfl | exact Nat.le_refl _ | (show _ + 1 ≤ 4294967296; omega) | (show _ + 1 ≤ 5864062014634; omega) | (dsimp only; omega) | (show (_ : Int) ≤ (_ : Int); omega) | (show _ < List.length _; simp only [List.length_set, List.length_append, List.length_take]; omega) | (show wantB _ _ = true; simp <;> omega) | (show (_ : Bool) = _; simp_all; done) | (exfalso; omega) | refine aRegion_auto (by decide +kernel) ?_ | fail))
            all_goals first
              | (have hcc : mine = false → eqL [x.1, x.2] [p.1, p.2] = false → eqL [x.1, x.2] [r.1, r.2] = true := by assumption
                 exfalso
                 have := hcc hw.1 (by rw [eP]; exact decide_eq_false hw.2.1)
                 rw [eR, decide_eq_true_iff] at this
                 exact hw.2.2 this)
              | skip
            refine acall_conv [.dat SpT, .dat SpT, .dat SpT, .dat SpT] _ _ _ rfl trivial (acall_frame0 rfl (hia _ ?_))
            cases htr : Shp.tri p q r x with
            | true =>
              have hK := hno (fun h => by
                have := h.1 j t hin hw1 (by rw [hpx]; exact hw.2.1) (by rw [hpx]; exact hw.2.2)
                rw [hpx, htr] at this
                cases this)
              (repeat' (first | exact trivial | exact fun h => h | refine And.intro ?_ ?_ | (intro hb; try simp at hb) | omega | exact rfl | exact Nat.le_refl _ | (show _ + 1 ≤ 4294967296; omega) | (show _ + 1 ≤ 5864062014634; omega) | (dsimp only; omega) | (show (_ : Int) ≤ (_ : Int); omega) | (show _ < List.length _; simp only [List.length_set, List.length_append, List.length_take]; omega) | (show wantB _ _ = true; simp <;> omega) | (show (_ : Bool) = _; simp_all; done) | (exfalso; omega) | refine aRegion_auto (by decide +kernel) ?_ | refine ⟨_, _, REnt.drop ⟨rfl, rfl⟩, ?_⟩ | fail))
              · exact hK
              · (have hcc : mine = false → eqL [x.1, x.2] [p.1, p.2] = false → eqL [x.1, x.2] [r.1, r.2] = true := by assumption
                 exfalso
                 have := hcc hw.1 (by rw [eP]; exact decide_eq_false hw.2.1)
                 rw [eR, decide_eq_true_iff] at this
                 exact hw.2.2 this)
            | false =>
              have hOk : Ok j t := fun _ _ _ _ => by rw [hpx]; exact htr
              (repeat' (first | exact trivial | refine And.intro ?_ ?_ | (intro hb; try simp at hb) | omega | exact rfl | refine aRegion_auto (by decide +kernel) ?_ | fail))
              refine ⟨t + 1, ⟨by show t + 1 ≤ b.length; omega, fun t' h' => ?_⟩, by show b.length - (t + 1) < b.length - t; omega, Ent.ren [0, 1, 2, 3] rfl ?_ ?_⟩
              · by_cases c : t' = t
                · rw [c]; exact hOk
                · exact hts t' (by have h' : t' < t + 1 := h'; omega)
              · (repeat' (first | exact trivial | exact rfl | refine And.intro ?_ ?_))
              · (repeat' (first | exact trivial | exact rfl | refine And.intro ?_ ?_))
      · obtain rfl : t = b.length := by omega
        (repeat' (first | exact trivial | exact fun h => h | refine And.intro ?_ ?_ | (intro hb; try simp at hb) | omega | exact rfl | exact Nat.le_refl _ | (show _ + 1 ≤ 4294967296; omega) | (show _ + 1 ≤ 5864062014634; omega) | (dsimp only; omega) | (show (_ : Int) ≤ (_ : Int); omega) | (show _ < List.length _; simp only [List.length_set, List.length_append, List.length_take]; omega) | (show wantB _ _ = true; simp <;> omega) | (show (_ : Bool) = _; simp_all; done) | (exfalso; omega) | refine aRegion_auto (by decide +kernel) ?_ | fail))
        refine ⟨j + 1, ⟨by show j + 1 ≤ m.length; omega, fun j' h' t => ?_⟩, by show m.length - (j + 1) < m.length - j; omega, Ent.sub rfl ?_⟩
        · by_cases c : j' = j
          · rw [c]
            intro h1
            exact hts t (by have := h1.2; rw [hbd] at this; exact this) h1
          · exact hjs j' (by have h' : j' < j + 1 := h'; omega) t
        · (repeat' (first | exact trivial | exact rfl | refine And.intro ?_ ?_))
    · obtain rfl : j = m.length := by omega
      have htri : ∀ j t, Ok j t := fun j t h1 => hjs j h1.1 t h1
      (repeat' (first | exact trivial | exact fun h => h | refine And.intro ?_ ?_ | (intro hb; try simp at hb) | omega | exact rfl | exact Nat.le_refl _ | (show _ + 1 ≤ 4294967296; omega) | (show _ + 1 ≤ 5864062014634; omega) | (dsimp only; omega) | (show (_ : Int) ≤ (_ : Int); omega) | (show _ < List.length _; simp only [List.length_set, List.length_append, List.length_take]; omega) | (show wantB _ _ = true; simp <;> omega) | (show (_ : Bool) = _; simp_all; done) | (exfalso; omega) | refine aRegion_auto (by decide +kernel) ?_ | fail))
      refine acall_conv [.dat MpT] _ _ _ rfl trivial (acall_frame0 rfl (pieces_any G m B _ ?_))
      have hll := Shp.pcs_len B.len m.length (Nat.le_refl _)
      have hml := fun x => Shp.mem_pcs (m := m) (x := x) m.length
      generalize Shp.pcs m m.length = L at hll hml
      have hyes := fun h => hyes ⟨htri, h⟩
      have hno : ¬ (∀ j n, Shp.isP m j n → ¬ (j = i ∧ (n = k ∨ n + 1 = k)) → Shp.meet p r (Shp.pt m j n) (Shp.pt m j (n + 1)) = false) → K (.fz .bool false) [] := fun h => hno fun c => h c.2
      let PO : Shp.Pc → Prop := fun y => ¬ (y.2.2.1 = (i : Int) ∧ (y.2.2.2 = (k : Int) ∨ y.2.2.2 + 1 = (k : Int))) → Shp.meet p r y.1 y.2.1 = false
      (repeat' (first | exact trivial | exact fun h => h | refine And.intro ?_ ?_ | (intro hb; try simp at hb) | omega | exact rfl | exact Nat.le_refl _ | (show _ + 1 ≤ 4294967296; omega) | (show _ + 1 ≤ 5864062014634; omega) | (dsimp only; omega) | (show (_ : Int) ≤ (_ : Int); omega) | (show _ < List.length _; simp only [List.length_set, List.length_append, List.length_take]; omega) | (show wantB _ _ = true; simp <;> omega) | (show (_ : Bool) = _; simp_all; done) | (exfalso; omega) | refine aRegion_auto (by decide +kernel) ?_ | fail))
      refine ⟨Nat, fun c => ⟨[(1, .fz int i), (2, .fz int k), (10, .ptr 1 0), (12, .ptr 3 0), (122, .fz (.list PcT) L), (123, .fz int L.length), (124, .fz int c)], [.box [.fz (.list (.list SpT)) m], .box [.fz int p.1, .fz int p.2], .box [.fz int q.1, .fz int q.2], .box [.fz int r.1, .fz int r.2]]⟩, fun c => c ≤ L.length ∧ ∀ c', c' < c → PO (List.getD L c' PcT.dft), fun c => L.length - c, 0, ⟨Nat.zero_le _, fun _ h => absurd h (Nat.not_lt_zero _)⟩, Ent.sub rfl ?_, ?_⟩
      · (repeat' (first | exact trivial | exact rfl | refine And.intro ?_ ?_))
      intro c ⟨hc, hcs⟩
      have hc : c ≤ L.length := hc
      have hcs : ∀ c', c' < c → PO (List.getD L c' PcT.dft) := hcs
      show awp _ _ _ ⟨[(1, .fz int i), (2, .fz int k), (10, .ptr 1 0), (12, .ptr 3 0), (122, .fz (.list PcT) L), (123, .fz int L.length), (124, .fz int c)], [.box [.fz (.list (.list SpT)) m], .box [.fz int p.1, .fz int p.2], .box [.fz int q.1, .fz int q.2], .box [.fz int r.1, .fz int r.2]]⟩
      by_cases hcl : c < L.length
      · obtain ⟨y, hy⟩ : ∃ y, List.getD L c PcT.dft = y := ⟨_, rfl⟩
        have hgy : List.getD L (Int.toNat (c : Int)) PcT.dft = y := hy
        have hyL : y ∈ L := by rw [← hy, List.getD_eq_getElem?_getD, List.getElem?_eq_getElem hcl]; exact List.getElem_mem _
        obtain ⟨j, n, hjm, hnl, hye⟩ := (hml y).1 hyL
        have p1 : plB y.1 = true := by rw [hye]; exact B.pl j n ⟨hjm, by omega⟩
        have p2 : plB y.2.1 = true := by rw [hye]; exact B.pl j (n + 1) ⟨hjm, hnl⟩
        have hip : Shp.isP m j n := ⟨hjm, hnl⟩
        have hma := meet_any G p r (List.getD L (Int.toNat (c : Int)) PcT.dft).1 (List.getD L (Int.toNat (c : Int)) PcT.dft).2.1 pp pr (by rw [hgy]; exact p1) (by rw [hgy]; exact p2)
        have n1 : y.2.2.1 = (j : Int) := by rw [hye]
        have n2 : y.2.2.2 = (n : Int) := by rw [hye]
        have n3 : y.1 = Shp.pt m j n := by rw [hye]
        have n4 : y.2.1 = Shp.pt m j (n + 1) := by rw [hye]
        have hz : (L[c]?.getD PcT.dft) = y := by rw [← hy, List.getD_eq_getElem?_getD]
        clear hye
        have hgo : PO y → ∀ c', c' < c + 1 → PO (List.getD L c' PcT.dft) := fun h c' h' => by
          by_cases e : c' = c
          · rw [e, hy]; exact h
          · exact hcs c' (by omega)
        (repeat' (first | exact trivial | exact fun h => h | refine And.intro ?_ ?_ | (intro hb; try simp at hb) | omega | exact rfl | exact Nat.le_refl _ | (show _ + 1 ≤ 4294967296; omega) | (show _ + 1 ≤ 5864062014634; omega) | (dsimp only; omega) | (show (_ : Int) ≤ (_ : Int); omega) | (show _ < List.length _; simp only [List.length_set, List.length_append, List.length_take]; omega) | (show wantB _ _ = true; simp <;> omega) | (show (_ : Bool) = _; simp_all; done) | (exfalso; omega) | refine aRegion_auto (by decide +kernel) ?_ | fail))
        · have hg := hgo (fun h => by
            rw [hz] at hb
            exact absurd (by omega) h)
          refine ⟨c + 1, ⟨by show c + 1 ≤ L.length; omega, hg⟩, by show L.length - (c + 1) < L.length - c; omega, Ent.ren [0, 1, 2, 3] rfl ?_ ?_⟩
          · (repeat' (first | exact trivial | exact rfl | refine And.intro ?_ ?_))
          · (repeat' (first | exact trivial | exact rfl | refine And.intro ?_ ?_))
        · rw [hz, n1, n2] at hb
          refine acall_conv [.dat SpT, .dat SpT, .dat SpT, .dat SpT] _ _ _ rfl trivial (acall_frame0 rfl (hma _ ?_))
          rw [hgy]
          cases hmt : Shp.meet p r y.1 y.2.1 with
          | true =>
            have hK := hno (fun h => by
              have := h j n hip (by omega)
              rw [← n3, ← n4, hmt] at this
              cases this)
            (repeat' (first | exact trivial | exact fun h => h | refine And.intro ?_ ?_ | (intro hb; try simp at hb) | omega | exact rfl | exact Nat.le_refl _ | (show _ + 1 ≤ 4294967296; omega) | (show _ + 1 ≤ 5864062014634; omega) | (dsimp only; omega) | (show (_ : Int) ≤ (_ : Int); omega) | (show _ < List.length _; simp only [List.length_set, List.length_append, List.length_take]; omega) | (show wantB _ _ = true; simp <;> omega) | (show (_ : Bool) = _; simp_all; done) | (exfalso; omega) | refine aRegion_auto (by decide +kernel) ?_ | refine ⟨_, _, REnt.drop ⟨rfl, rfl⟩, ?_⟩ | fail))
            exact hK
          | false =>
            have hg := hgo (fun _ => hmt)
            (repeat' (first | exact trivial | refine And.intro ?_ ?_ | (intro hb; try simp at hb) | omega | exact rfl | refine aRegion_auto (by decide +kernel) ?_ | fail))
            refine ⟨c + 1, ⟨by show c + 1 ≤ L.length; omega, hg⟩, by show L.length - (c + 1) < L.length - c; omega, Ent.ren [0, 1, 2, 3] rfl ?_ ?_⟩
            · (repeat' (first | exact trivial | exact rfl | refine And.intro ?_ ?_))
            · (repeat' (first | exact trivial | exact rfl | refine And.intro ?_ ?_))
      · obtain rfl : c = L.length := by omega
        have hK := hyes fun j n hip hne => by
          have hm : (Shp.pt m j n, Shp.pt m j (n + 1), (j : Int), (n : Int)) ∈ L := (hml _).2 ⟨j, n, hip.1, hip.2, rfl⟩
          obtain ⟨c, hc, he⟩ := List.getElem_of_mem hm
          have := hcs c hc
          rw [List.getD_eq_getElem?_getD, List.getElem?_eq_getElem hc] at this
          have this : PO L[c] := this
          rw [he] at this
          exact this (fun h => hne (by
            have h1 : (j : Int) = (i : Int) := h.1
            have h2 : (n : Int) = (k : Int) ∨ (n : Int) + 1 = (k : Int) := h.2
            omega))
        (repeat' (first | exact trivial | refine And.intro ?_ ?_ | (intro hb; try simp at hb) | omega | exact rfl | refine aRegion_auto (by decide +kernel) ?_ | refine ⟨_, _, REnt.drop ⟨rfl, rfl⟩, ?_⟩ | fail))
        exact hK
theorem spareC {G : List (Nat × Value)} {most : Int} (h0 : 0 ≤ most) (h1 : most ≤ 9223372036854775807) : thin.SpareC G most := fun o i k hv hi hk0 hk =>
  spare_any G o (MB_of (Shp.vE_zero hv).1.1 (Shp.vE_zero hv).1.2 (Shp.vE_zero hv).2.1) i k hi hk0 hk most h0 h1 _ rfl
end Go.Proofs.YtcfalmdfohphoaaDoor
/-
  Are the arcs the same (they are): the walk.
-/
namespace Go.Proofs.YtcfalmdfohphoaaDoor
open Go Go.Ab Mp
set_option maxRecDepth 100000
set_option maxHeartbeats 4000000 in
theorem sameArcs_any (G : List (Nat × Value)) (m : Shp.Arcs) (hl : m.length ≤ 1000000000000) (hlen : ∀ i, i < m.length → (Shp.arc m i).length ≤ 1000000000000) (K : AV → List AO → Prop) (hK : K (.fz .bool true) []) :
    ACall Tryd.prog G 21 [.fz MpT m, .fptr MpT m] [] K := by
  refine acall_mk (E := envAt G 67 0) (envOk _ _ _) Tryd.func21 rfl rfl rfl rfl rfl ?_
  (repeat' (first | exact trivial | exact fun h => h | refine And.intro ?_ ?_ | (intro hb; try simp at hb) | omega | exact rfl | exact Nat.le_refl _ | (show _ + 1 ≤ 4294967296; omega) | (show _ + 1 ≤ 5864062014634; omega) | (dsimp only; omega) | (show (_ : Int) ≤ (_ : Int); omega) | (show _ < List.length _; simp only [List.length_set, List.length_append, List.length_take]; omega) | (show wantB _ _ = true; simp <;> omega) | (show (_ : Bool) = _; simp_all; done) | (exfalso; omega) | refine aRegion_auto (by decide +kernel) ?_ | fail))
  refine ⟨Nat, fun i => ⟨[(1, .fptr MpT m), (2, .ptr 0 0), (5, .fz int i)], [.box [.fz (.list (.list SpT)) m]]⟩, fun i => i ≤ m.length, fun i => m.length - i, 0, Nat.zero_le _, Ent.sub rfl ?_, ?_⟩
  · (repeat' (first | exact trivial | exact rfl | refine And.intro ?_ ?_))
  intro i hi
  have hi : i ≤ m.length := hi
  show awp _ _ _ ⟨[(1, .fptr MpT m), (2, .ptr 0 0), (5, .fz int i)], [.box [.fz (.list (.list SpT)) m]]⟩
  by_cases hil : i < m.length
  · obtain ⟨b, hbd⟩ : ∃ b, Shp.arc m i = b := ⟨_, rfl⟩
    have hgb : List.getD m (Int.toNat (i : Int)) SpT.list.dft = b := hbd
    have hgl : (List.getD m (Int.toNat (i : Int)) SpT.list.dft).length = b.length := by rw [hgb]
    have hgl2 : (m[i]?.getD SpT.list.dft).length = b.length := by rw [← hgb, Int.toNat_natCast, List.getD_eq_getElem?_getD]
    have hbl := hlen i hil
    rw [hbd] at hbl
    (repeat' (first | exact trivial | exact fun h => h | refine And.intro ?_ ?_ | (intro hb; try simp at hb) | omega | exact rfl | exact Nat.le_refl _ | (show _ + 1 ≤ 4294967296; omega) | (show _ + 1 ≤ 5864062014634; omega) | (dsimp only; omega) | (show (_ : Int) ≤ (_ : Int); omega) | (show _ < List.length _; simp only [List.length_set, List.length_append, List.length_take]; omega) | (show wantB _ _ = true; simp <;> omega) | (show (_ : Bool) = _; simp_all; done) | (exfalso; omega) | refine aRegion_auto (by decide +kernel) ?_ | fail))
    refine ⟨Nat, fun t => ⟨[(1, .fptr MpT m), (2, .ptr 0 0), (5, .fz int i), (6, .fz int t)], [.box [.fz (.list (.list SpT)) m]]⟩, fun t => t ≤ b.length, fun t => b.length - t, 0, Nat.zero_le _, Ent.sub rfl ?_, ?_⟩
    · (repeat' (first | exact trivial | exact rfl | refine And.intro ?_ ?_))
    intro t ht
    have ht : t ≤ b.length := ht
    show awp _ _ _ ⟨[(1, .fptr MpT m), (2, .ptr 0 0), (5, .fz int i), (6, .fz int t)], [.box [.fz (.list (.list SpT)) m]]⟩
    by_cases htl : t < b.length
    · obtain ⟨x, hx⟩ : ∃ x, List.getD (List.getD m (Int.toNat (i : Int)) SpT.list.dft) (Int.toNat (t : Int)) SpT.dft = x := ⟨_, rfl⟩
      have hx2 : (m[i]?.getD SpT.list.dft)[t]?.getD SpT.dft = x := by rw [← hx, Int.toNat_natCast, Int.toNat_natCast, List.getD_eq_getElem?_getD, List.getD_eq_getElem?_getD]
      have eX : eqL [x.1, x.2] [x.1, x.2] = true := by rw [eqS]; exact decide_eq_true rfl
      (repeat' (first | exact trivial | exact fun h => h | refine And.intro ?_ ?_ | (intro hb; try simp at hb) | omega | exact rfl | exact Nat.le_refl _ | (show _ + 1 ≤ 4294967296; omega) | (show _ + 1 ≤ 5864062014634; omega) | (dsimp only; omega) | (show (_ : Int) ≤ (_ : Int); omega) | (show _ < List.length _; simp only [List.length_set, List.length_append, List.length_take]; omega) | (show wantB _ _ = true; simp <;> omega) | (show (_ : Bool) = _; simp_all; done) | (exfalso; omega) | refine aRegion_auto (by decide +kernel) ?_ | fail))
      · exfalso
        rw [hx2, eX] at hb
        cases hb
      · refine ⟨t + 1, by show t + 1 ≤ b.length; omega, by show b.length - (t + 1) < b.length - t; omega, Ent.sub rfl ?_⟩
        · (repeat' (first | exact trivial | exact rfl | refine And.intro ?_ ?_))
    · obtain rfl : t = b.length := by omega
      (repeat' (first | exact trivial | exact fun h => h | refine And.intro ?_ ?_ | (intro hb; try simp at hb) | omega | exact rfl | exact Nat.le_refl _ | (show _ + 1 ≤ 4294967296; omega) | (show _ + 1 ≤ 5864062014634; omega) | (dsimp only; omega) | (show (_ : Int) ≤ (_ : Int); omega) | (show _ < List.length _; simp only [List.length_set, List.length_append, List.length_take]; omega) | (show wantB _ _ = true; simp <;> omega) | (show (_ : Bool) = _; simp_all; done) | (exfalso; omega) | refine aRegion_auto (by decide +kernel) ?_ | fail))
      refine ⟨i + 1, by show i + 1 ≤ m.length; omega, by show m.length - (i + 1) < m.length - i; omega, Ent.sub rfl ?_⟩
      · (repeat' (first | exact trivial | exact rfl | refine And.intro ?_ ?_))
  · obtain rfl : i = m.length := by omega
    (repeat' (first | exact trivial | exact fun h => h | refine And.intro ?_ ?_ | (intro hb; try simp at hb) | omega | exact rfl | exact Nat.le_refl _ | (show _ + 1 ≤ 4294967296; omega) | (show _ + 1 ≤ 5864062014634; omega) | (dsimp only; omega) | (show (_ : Int) ≤ (_ : Int); omega) | (show _ < List.length _; simp only [List.length_set, List.length_append, List.length_take]; omega) | (show wantB _ _ = true; simp <;> omega) | (show (_ : Bool) = _; simp_all; done) | (exfalso; omega) | refine aRegion_auto (by decide +kernel) ?_ | refine ⟨_, _, REnt.drop ⟨rfl, rfl⟩, ?_⟩ | fail))
    exact hK
end Go.Proofs.YtcfalmdfohphoaaDoor
/-
  The document's map without a point: the walk.
-/
namespace Shp
/-- the points of an arc that are left, of the first t ones -/
def wo (c : Bool) (b : List Sp) (k t : Nat) : List Sp := if c = true then (b.take t).eraseIdx k else b.take t
theorem wo_zero (c : Bool) (b : List Sp) (k : Nat) : wo c b k 0 = [] := by unfold wo; split <;> simp
theorem wo_skip {b : List Sp} {k : Nat} (hk : k < b.length) : wo true b k (k + 1) = wo true b k k := by
  unfold wo
  rw [if_pos rfl, if_pos rfl, List.eraseIdx_of_length_le (l := b.take k) (by rw [List.length_take]; omega), List.eraseIdx_eq_take_drop_succ, List.take_take, List.drop_eq_nil_of_le (by rw [List.length_take]; omega), List.append_nil, Nat.min_eq_left (Nat.le_succ k)]
theorem take_at {b : List Sp} {t : Nat} (ht : t < b.length) : b.take (t + 1) = b.take t ++ [at_ b t] := by
  rw [List.take_add_one, List.getElem?_eq_getElem ht]
  unfold at_
  rw [List.getD_eq_getElem?_getD, List.getElem?_eq_getElem ht]
  rfl
theorem wo_next {c : Bool} {b : List Sp} {k t : Nat} (ht : t < b.length) (h : ¬ (c = true ∧ t = k)) : wo c b k (t + 1) = wo c b k t ++ [at_ b t] := by
  unfold wo
  cases c with
  | false => rw [if_neg (by decide), if_neg (by decide), take_at ht]
  | true =>
    rw [if_pos rfl, if_pos rfl, take_at ht]
    have h : t ≠ k := fun e => h ⟨rfl, e⟩
    rcases Nat.lt_or_ge k t with c | c
    · rw [List.eraseIdx_append_of_lt_length (by rw [List.length_take]; omega)]
    · rw [List.eraseIdx_of_length_le (by rw [List.length_append, List.length_take, List.length_singleton]; omega), List.eraseIdx_of_length_le (by rw [List.length_take]; omega)]
theorem wo_len {c : Bool} {b : List Sp} {k t : Nat} (ht : t ≤ b.length) : (wo c b k t).length ≤ b.length := by
  unfold wo
  split
  · exact Nat.le_trans (List.length_eraseIdx_le _ _) (by rw [List.length_take]; omega)
  · rw [List.length_take]; omega
theorem wo_full {m : Arcs} {i k j : Nat} (hj : j < m.length) : wo (decide (j = i)) (arc m j) k (arc m j).length = arc (del m i k) j := by
  unfold wo
  rw [List.take_length]
  by_cases c : j = i
  · subst c; rw [if_pos (decide_eq_true rfl), arc_del hj]
  · rw [if_neg (by simpa using c), arc_del_ne c]
end Shp
namespace Go.Proofs.YtcfalmdfohphoaaDoor
open Go Go.Ab Mp
set_option maxRecDepth 100000
set_option maxHeartbeats 4000000 in
theorem without_any (G : List (Nat × Value)) (m : Shp.Arcs) (B : MB m) (i k : Nat) (hi : i < m.length) (hk : k < (Shp.arc m i).length) (K : AV → List AO → Prop) (hK : K (.fptr MpT (Shp.del m i k)) []) :
    ACall Tryd.prog G 44 [.fptr MpT m, .fz int i, .fz int k] [] K := by
  have hb0 := B.few
  obtain ⟨M, hM⟩ : ∃ M, Shp.del m i k = M := ⟨_, rfl⟩
  have hMl : M.length = m.length := by rw [← hM]; exact Shp.del_length m i k
  rw [hM] at hK
  refine acall_mk (E := envAt G 66 0) (envOk _ _ _) Tryd.func44 rfl rfl rfl rfl rfl ?_
  (repeat' (first | exact trivial | exact fun h => h | refine And.intro ?_ ?_ | (intro hb; try simp at hb) | omega | exact rfl | exact Nat.le_refl _ | (show _ + 1 ≤ 4294967296; omega) | (show _ + 1 ≤ 5864062014634; omega) | (dsimp only; omega) | (show (_ : Int) ≤ (_ : Int); omega) | (show _ < List.length _; simp only [List.length_set, List.length_append, List.length_take]; omega) | (show wantB _ _ = true; simp <;> omega) | (show (_ : Bool) = _; simp_all; done) | (exfalso; omega) | refine aRegion_auto (by decide +kernel) ?_ | fail))
  refine ⟨Nat, fun j => ⟨[(0, .fptr MpT m), (1, .fz int i), (2, .fz int k), (7, .ptr 0 0), (8, .fz int j)], [.box [.ref 1 0 (M.take j).length], .row (.list SpT) (M.take j)]⟩, fun j => j ≤ m.length, fun j => m.length - j, 0, Nat.zero_le _, (Ent.nilBox 0 0 (.list SpT) rfl rfl).trans (Ent.sub rfl ?_), ?_⟩
  · (repeat' (first | exact trivial | exact rfl | refine And.intro ?_ ?_))
  intro j hj
  have hj : j ≤ m.length := hj
  obtain ⟨o, ho⟩ : ∃ o, M.take j = o := ⟨_, rfl⟩
  have hol : o.length = j := by rw [← ho, List.length_take]; omega
  show awp _ _ _ ⟨[(0, .fptr MpT m), (1, .fz int i), (2, .fz int k), (7, .ptr 0 0), (8, .fz int j)], [.box [.ref 1 0 (M.take j).length], .row (.list SpT) (M.take j)]⟩
  rw [ho]
  by_cases hjl : j < m.length
  · have hbl := B.len j hjl
    have hwf := Shp.wo_full (i := i) (k := k) hjl
    rw [hM] at hwf
    have hkb : j = i → k < (Shp.arc m j).length := fun e => by rw [e]; exact hk
    obtain ⟨b, hbd⟩ : ∃ b, Shp.arc m j = b := ⟨_, rfl⟩
    have hgb : List.getD m (Int.toNat (j : Int)) SpT.list.dft = b := hbd
    have hgl : (List.getD m (Int.toNat (j : Int)) SpT.list.dft).length = b.length := by rw [hgb]
    have hgl2 : (m[j]?.getD SpT.list.dft).length = b.length := by rw [← hgb, Int.toNat_natCast, List.getD_eq_getElem?_getD]
    rw [hbd] at hbl hwf hkb
    have hnx : M.take (j + 1) = o ++ [Shp.arc M j] := by
      rw [List.take_add_one, ho, List.getElem?_eq_getElem (by omega)]
      have : M[j]'(by omega) = Shp.arc M j := by unfold Shp.arc; rw [List.getD_eq_getElem?_getD, List.getElem?_eq_getElem (by omega)]; rfl
      rw [this]; rfl
    obtain ⟨c, hc⟩ : ∃ c, decide (j = i) = c := ⟨_, rfl⟩
    rw [hc] at hwf
    (repeat' (first | exact trivial | exact fun h => h | refine And.intro ?_ ?_ | (intro hb; try simp at hb) | omega | exact rfl | exact Nat.le_refl _ | (show _ + 1 ≤ 4294967296; omega) | (show _ + 1 ≤ 5864062014634; omega) | (dsimp only; omega) | (show (_ : Int) ≤ (_ : Int); omega) | (show _ < List.length _; simp only [List.length_set, List.length_append, List.length_take]; omega) | (show wantB _ _ = true; simp <;> omega) | (show (_ : Bool) = _; simp_all; done) | (exfalso; omega) | refine aRegion_auto (by decide +kernel) ?_ | fail))
    refine ⟨Nat, fun t => ⟨[(0, .fptr MpT m), (1, .fz int i), (2, .fz int k), (7, .ptr 0 0), (8, .fz int j), (9, .ref 2 0 (Shp.wo c b k t).length), (10, .fz int t)], [.box [.ref 1 0 o.length], .row (.list SpT) o, .row SpT (Shp.wo c b k t)]⟩, fun t => t ≤ b.length, fun t => b.length - t, 0, Nat.zero_le _, (Ent.nil 9 SpT rfl).trans (Ent.sub ?_ ?_), ?_⟩
    · rw [Shp.wo_zero]; rfl
    · (repeat' (first | exact trivial | exact rfl | refine And.intro ?_ ?_))
      exact congrArg (fun l : List Shp.Sp => AV.ref 2 0 l.length) (Shp.wo_zero c b k).symm
    intro t ht
    have ht : t ≤ b.length := ht
    have hwl := Shp.wo_len (c := c) (k := k) ht
    show awp _ _ _ ⟨[(0, .fptr MpT m), (1, .fz int i), (2, .fz int k), (7, .ptr 0 0), (8, .fz int j), (9, .ref 2 0 (Shp.wo c b k t).length), (10, .fz int t)], [.box [.ref 1 0 o.length], .row (.list SpT) o, .row SpT (Shp.wo c b k t)]⟩
    by_cases htl : t < b.length
    · have hs : c = true ∧ t = k → Shp.wo c b k (t + 1) = Shp.wo c b k t := fun ⟨e, f⟩ => by rw [e, f]; exact Shp.wo_skip (by rw [← f]; exact htl)
      have hn := Shp.wo_next (c := c) (k := k) htl
      obtain ⟨W, hW⟩ : ∃ W, Shp.wo c b k t = W := ⟨_, rfl⟩
      rw [hW] at hwl hs hn ⊢
      have hgx : ∀ q : Int × Int, q = Shp.at_ b t → List.take W.length W ++ [q] = W ++ [Shp.at_ b t] := fun q e => by rw [List.take_length, e]
      (repeat' (first | exact trivial | exact fun h => h | refine And.intro ?_ ?_ | (intro hb; try simp at hb) | omega | exact rfl | exact Nat.le_refl _ | (show _ + 1 ≤ 4294967296; omega) | (show _ + 1 ≤ 5864062014634; omega) | (dsimp only; omega) | (show (_ : Int) ≤ (_ : Int); omega) | (show _ < List.length _; simp only [List.length_set, List.length_append, List.length_take]; omega) | (show wantB _ _ = true; simp <;> omega) | (show (_ : Bool) = _; simp_all; done) | (exfalso; omega) | refine aRegion_auto (by decide +kernel) ?_ | fail))
      · have hn := hn (fun h => by
          rw [← hc] at h
          have := of_decide_eq_true h.1
          omega)
        refine ⟨t + 1, by show t + 1 ≤ b.length; omega, by show b.length - (t + 1) < b.length - t; omega, Ent.ren [0, 1, 4] rfl ?_ ?_⟩
        · (repeat' (first | exact trivial | exact rfl | refine And.intro ?_ ?_))
          refine congrArg (fun l => some (AO.row SpT l)) (?_ : List.take W.length W ++ [List.getD (List.getD m (Int.toNat (j : Int)) SpT.list.dft) (Int.toNat (t : Int)) SpT.dft] = Shp.wo c b k (t + 1))
          rw [hn]
          exact hgx _ (by rw [hgb]; rfl)
        · (repeat' (first | exact trivial | exact rfl | refine And.intro ?_ ?_))
          exact congrArg (AV.ref 4 0) (show W.length + 1 = (Shp.wo c b k (t + 1)).length by rw [hn]; simp)
      · have hs := hs (by
          rw [← hc]
          exact ⟨decide_eq_true (by omega), by omega⟩)
        refine ⟨t + 1, by show t + 1 ≤ b.length; omega, by show b.length - (t + 1) < b.length - t; omega, Ent.sub ?_ ?_⟩
        · rw [hs]
        · (repeat' (first | exact trivial | exact rfl | refine And.intro ?_ ?_))
          exact congrArg (fun l : List Shp.Sp => AV.ref 2 0 l.length) hs.symm
    · obtain rfl : t = b.length := by omega
      rw [hwf]
      (repeat' (first | exact trivial | exact fun h => h | refine And.intro ?_ ?_ | (intro hb; try simp at hb) | omega | exact rfl | exact Nat.le_refl _ | (show _ + 1 ≤ 4294967296; omega) | (show _ + 1 ≤ 5864062014634; omega) | (dsimp only; omega) | (show (_ : Int) ≤ (_ : Int); omega) | (show _ < List.length _; simp only [List.length_set, List.length_append, List.length_take]; omega) | (show wantB _ _ = true; simp <;> omega) | (show (_ : Bool) = _; simp_all; done) | (exfalso; omega) | refine aRegion_auto (by decide +kernel) ?_ | fail))
      refine ⟨j + 1, by show j + 1 ≤ m.length; omega, by show m.length - (j + 1) < m.length - j; omega, Ent.ren [0, 4] rfl ?_ ?_⟩
      · (repeat' (first | exact trivial | exact rfl | refine And.intro ?_ ?_))
        · exact congrArg (fun n : Nat => some (AO.box [.ref 4 0 n])) (show o.length + 1 = (M.take (j + 1)).length by rw [hnx]; simp)
        · refine congrArg (fun l => some (AO.row (.list SpT) l)) (?_ : List.take o.length o ++ [List.take (Shp.arc M j).length (List.drop 0 (Shp.arc M j))] = M.take (j + 1))
          rw [List.take_length, List.drop_zero, List.take_length, hnx]
      · (repeat' (first | exact trivial | exact rfl | refine And.intro ?_ ?_))
  · obtain rfl : j = m.length := by omega
    have ho : M = o := by rw [← ho, ← hMl, List.take_length]
    subst ho
    (repeat' (first | exact trivial | exact fun h => h | refine And.intro ?_ ?_ | (intro hb; try simp at hb) | omega | exact rfl | exact Nat.le_refl _ | (show _ + 1 ≤ 4294967296; omega) | (show _ + 1 ≤ 5864062014634; omega) | (dsimp only; omega) | (show (_ : Int) ≤ (_ : Int); omega) | (show _ < List.length _; simp only [List.length_set, List.length_append, List.length_take]; omega) | (show wantB _ _ = true; simp <;> omega) | (show (_ : Bool) = _; simp_all; done) | (exfalso; omega) | refine aRegion_auto (by decide +kernel) ?_ | fail))
    refine ⟨_, _, (REnt.conv1 (.pt MpT) _ rfl ?_).trans (REnt.drop ⟨rfl, rfl⟩), ?_⟩
    · (repeat' (first | exact trivial | refine And.intro ?_ ?_ | (show _ ≤ _; omega) | (show _ ≤ _; simp; done)))
    · refine (congrArg (fun l => K (.fptr MpT l) []) (?_ : List.take M.length (List.drop 0 M) = M)).mpr hK
      rw [List.drop_zero, List.take_length]
end Go.Proofs.YtcfalmdfohphoaaDoor
/-
  What two pieces have in common: the walk of the document's.
-/
namespace Go.Proofs.YtcfalmdfohphoaaDoor
open Go Go.Ab
set_option maxRecDepth 100000
theorem with_any (G : List (Nat × Value)) (L : Pts) (hm : L.length ≤ 100) (x : Int × Int) (K : AV → List AO → Prop) (h1 : x ∈ L → K (.ref 0 0 L.length) [.row SpT L]) (h2 : x ∉ L → K (.ref 1 0 (L.length + 1)) [.dead, .row SpT (L ++ [x])]) :
    ACall Tryd.prog G 29 [.ref 0 0 L.length, .fz SpT x] [.row SpT L] K := by
  refine acall_mk (E := envAt G 23 1) (envOk _ _ _) Tryd.func29 rfl rfl rfl rfl rfl ?_
  (repeat' (first | exact trivial | refine And.intro ?_ ?_ | (intro hb; try simp at hb) | omega | exact rfl | refine aRegion_auto (by decide +kernel) ?_ | fail))
  refine ⟨Nat, fun k => ⟨[(0, .ref 0 0 L.length), (3, .ptr 1 0), (5, .fz int k)], [.row SpT L, .box [.fz int x.1, .fz int x.2]]⟩, fun k => k ≤ L.length ∧ ∀ j, j < k → Shp.at_ L j ≠ x, fun k => L.length - k, 0, ⟨Nat.zero_le _, fun j h => absurd h (Nat.not_lt_zero _)⟩, Ent.sub rfl ?_, ?_⟩
  · (repeat' (first | exact trivial | exact rfl | refine And.intro ?_ ?_))
  intro k ⟨hk, hno⟩
  by_cases hkl : k < L.length
  · have qk := at_q L k
    have eX := eqS (Shp.at_ L k) x
    (repeat' (first | exact trivial | exact fun h => h | refine And.intro ?_ ?_ | (intro hb; try simp at hb) | omega | exact rfl | exact Nat.le_refl _ | (show _ + 1 ≤ 4294967296; omega) | (show _ + 1 ≤ 5864062014634; omega) | (dsimp only; omega) | (show (_ : Int) ≤ (_ : Int); omega) | (show _ < List.length _; simp only [List.length_set, List.length_append, List.length_take]; omega) | (show wantB _ _ = true; simp <;> omega) | (show (_ : Bool) = _; simp_all; done) | (exfalso; omega) | refine aRegion_auto (by decide +kernel) ?_ | fail))
    · have e : Shp.at_ L k = x := by
        rw [qk, eX] at hb
        exact of_decide_eq_true hb
      refine ⟨_, _, REnt.ren [0] rfl ?_ ?_, h1 ?_⟩
      · (repeat' (first | exact trivial | exact rfl | refine And.intro ?_ ?_))
      · (repeat' (first | exact trivial | exact rfl | refine And.intro ?_ ?_))
      · rw [← e]
        have : Shp.at_ L k = L[k] := by unfold Shp.at_; simp [hkl]
        rw [this]; exact List.getElem_mem hkl
    · have e : Shp.at_ L k ≠ x := by
        rw [qk, eX] at hb
        exact of_decide_eq_false hb
      refine ⟨k + 1, ⟨by show k + 1 ≤ L.length; omega, fun j hj => ?_⟩, by show L.length - (k + 1) < L.length - k; omega, Ent.sub rfl ?_⟩
      · by_cases ej : j = k
        · rw [ej]; exact e
        · exact hno j (by omega)
      · (repeat' (first | exact trivial | exact rfl | refine And.intro ?_ ?_))
  · have hke : k = L.length := by omega
    have hnx : x ∉ L := fun hx => by
      obtain ⟨i, hi, rfl⟩ := List.getElem_of_mem hx
      have e : Shp.at_ L i = L[i] := by unfold Shp.at_; simp [hi]
      exact hno i (by omega) e
    (repeat' (first | exact trivial | exact fun h => h | refine And.intro ?_ ?_ | (intro hb; try simp at hb) | omega | exact rfl | exact Nat.le_refl _ | (show _ + 1 ≤ 4294967296; omega) | (show _ + 1 ≤ 5864062014634; omega) | (dsimp only; omega) | (show (_ : Int) ≤ (_ : Int); omega) | (show _ < List.length _; simp only [List.length_set, List.length_append, List.length_take]; omega) | (show wantB _ _ = true; simp <;> omega) | (show (_ : Bool) = _; simp_all; done) | (exfalso; omega) | refine aRegion_auto (by decide +kernel) ?_ | fail))
    refine ⟨_, _, REnt.ren [0, 3] rfl ?_ ?_, h2 hnx⟩
    · (repeat' (first | exact trivial | exact rfl | refine And.intro ?_ ?_))
      refine congrArg (fun l => some (AO.row SpT l)) (?_ : List.take L.length L ++ [x] = L ++ [x])
      rw [List.take_of_length_le (Nat.le_refl _)]
    · (repeat' (first | exact trivial | exact rfl | refine And.intro ?_ ?_))
/-- branches that come to the same state are joined there: what is to be shown of it, once -/
structure Bx (c : Prop) : Prop where
  out : c
theorem merge {c g : Prop} (f : Bx c → g) (h : c) : g := f ⟨h⟩
theorem wth_len (L : Pts) (x : Int × Int) : (Shp.wth L x).length ≤ L.length + 1 := by unfold Shp.wth; split <;> simp
theorem wif_len (b : Bool) (L : Pts) (x : Int × Int) : (Shp.wif b L x).length ≤ L.length + 1 := by
  unfold Shp.wif
  split
  · exact wth_len L x
  · omega
set_option maxHeartbeats 8000000 in
theorem common_any (G : List (Nat × Value)) (p q r s : Int × Int) (hp : plB p = true) (hq : plB q = true) (hr : plB r = true) (hs : plB s = true) (K : AV → List AO → Prop) (hK : K (.tup [.fz int (Shp.com p q r s).1, .agg [.fz int (Shp.com p q r s).2.1, .fz int (Shp.com p q r s).2.2]]) []) : ACall Tryd.prog G 45 [.fz SpT p, .fz SpT q, .fz SpT r, .fz SpT s] [] K := by
  refine acall_mk (E := envCut G 89 0 [6, 8, 10, 12, 14]) (envCutOk _ _ _ _) Tryd.func45 rfl rfl rfl rfl rfl ?_
  (repeat' (first | exact trivial | exact fun h => h | refine And.intro ?_ ?_ | (intro hb; try simp at hb) | omega | exact rfl | exact Nat.le_refl _ | (show _ + 1 ≤ 4294967296; omega) | (show _ + 1 ≤ 5864062014634; omega) | (dsimp only; omega) | (show (_ : Int) ≤ (_ : Int); omega) | (show _ < List.length _; simp only [List.length_set, List.length_append, List.length_take]; omega) | (show wantB _ _ = true; simp <;> omega) | (show (_ : Bool) = _; simp_all; done) | (exfalso; omega) | refine aRegion_auto (by decide +kernel) ?_ | refine ⟨_, _, REnt.drop ⟨rfl, rfl⟩, ?_⟩ | fail))
  refine acall_conv [.dat SpT, .dat SpT, .dat SpT] _ _ _ rfl trivial (acall_frame0 rfl (onPiece_any _ p q r hp hq hr _ ?_))
  (repeat' (first | exact trivial | refine And.intro ?_ ?_ | (intro hb; try simp at hb) | omega | exact rfl | refine aRegion_auto (by decide +kernel) ?_ | refine ⟨_, _, REnt.drop ⟨rfl, rfl⟩, ?_⟩ | fail))
  refine acall_conv [.dat SpT, .dat SpT, .dat SpT] _ _ _ rfl trivial (acall_frame0 rfl (onPiece_any _ p q s hp hq hs _ ?_))
  (repeat' (first | exact trivial | refine And.intro ?_ ?_ | (intro hb; try simp at hb) | omega | exact rfl | refine aRegion_auto (by decide +kernel) ?_ | refine ⟨_, _, REnt.drop ⟨rfl, rfl⟩, ?_⟩ | fail))
  refine acall_conv [.dat SpT, .dat SpT, .dat SpT] _ _ _ rfl trivial (acall_frame0 rfl (onPiece_any _ r s p hr hs hp _ ?_))
  (repeat' (first | exact trivial | refine And.intro ?_ ?_ | (intro hb; try simp at hb) | omega | exact rfl | refine aRegion_auto (by decide +kernel) ?_ | refine ⟨_, _, REnt.drop ⟨rfl, rfl⟩, ?_⟩ | fail))
  refine acall_conv [.dat SpT, .dat SpT, .dat SpT] _ _ _ rfl trivial (acall_frame0 rfl (onPiece_any _ r s q hr hs hq _ ?_))
  generalize eA : Shp.on p q r = fA at *
  generalize eB : Shp.on p q s = fB at *
  generalize eC : Shp.on r s p = fC at *
  generalize eD : Shp.on r s q = fD at *
  (repeat' (first | exact trivial | refine And.intro ?_ ?_ | (intro hb; try simp at hb) | omega | exact rfl | refine aRegion_auto (by decide +kernel) ?_ | refine ⟨_, _, REnt.drop ⟨rfl, rfl⟩, ?_⟩ | fail))
  have l0 : ([] : Pts).length ≤ 0 := Nat.le_refl _
  refine ⟨[(4, .ptr 0 0), (5, .ptr 1 0), (6, .ptr 2 0), (7, .ptr 3 0), (9, .ptr 4 0), (10, .ref 5 0 ([] : Pts).length), (11, .fz .bool fA), (12, .fz .bool fB), (13, .fz .bool fC), (14, .fz .bool fD)], [.box [.fz int p.1, .fz int p.2], .box [.fz int q.1, .fz int q.2], .box [.fz int r.1, .fz int r.2], .box [.fz int s.1, .fz int s.2], .box [.fz int 0, .fz int 0], .row SpT []], (Ent.nil 10 SpT rfl).trans (Ent.sub rfl ?_), ?_⟩
  · (repeat' (first | exact trivial | exact rfl | refine And.intro ?_ ?_))
  obtain ⟨L1, hL1⟩ : ∃ L1, L1 = Shp.wif fA ([] : Pts) r := ⟨_, rfl⟩
  have l1 : L1.length ≤ 1 := by rw [hL1]; have := wif_len fA ([] : Pts) r; omega
  apply merge
  · intro hc
    cases fA with
    | true =>
      (repeat' (first | exact trivial | refine And.intro ?_ ?_ | (intro hb; try simp at hb) | omega | exact rfl | refine aRegion_auto (by decide +kernel) ?_ | refine ⟨_, _, REnt.drop ⟨rfl, rfl⟩, ?_⟩ | fail))
      refine acall_conv [.keep, .dat SpT] _ _ _ rfl trivial (acall_frame [5] [.row SpT ([] : Pts)] [.ref 0 0 ([] : Pts).length, .fz SpT r] rfl ⟨⟨rfl, trivial⟩, trivial⟩ ⟨rfl, rfl⟩ rfl (with_any _ ([] : Pts) (by omega) r _ (fun hin => ?_) (fun hin => ?_)))
      · have e : L1 = ([] : Pts) := by rw [hL1]; unfold Shp.wif Shp.wth; rw [if_pos rfl, if_pos hin]
        (repeat' (first | exact trivial | refine And.intro ?_ ?_ | (intro hb; try simp at hb) | omega | exact rfl | refine aRegion_auto (by decide +kernel) ?_ | refine ⟨_, _, REnt.drop ⟨rfl, rfl⟩, ?_⟩ | fail))
        refine ⟨[(4, .ptr 0 0), (5, .ptr 1 0), (6, .ptr 2 0), (7, .ptr 3 0), (9, .ptr 4 0), (10, .ref 5 0 L1.length), (12, .fz .bool fB), (13, .fz .bool fC), (14, .fz .bool fD)], [.box [.fz int p.1, .fz int p.2], .box [.fz int q.1, .fz int q.2], .box [.fz int r.1, .fz int r.2], .box [.fz int s.1, .fz int s.2], .box [.fz int 0, .fz int 0], .row SpT L1], Ent.sub ?_ ?_, hc.out⟩
        · rw [e]
        · rw [e]; (repeat' (first | exact trivial | exact rfl | refine And.intro ?_ ?_))
      · have e : L1 = ([] : Pts) ++ [r] := by rw [hL1]; unfold Shp.wif Shp.wth; rw [if_pos rfl, if_neg hin]
        have e2 : L1.length = ([] : Pts).length + 1 := by rw [e]; simp
        (repeat' (first | exact trivial | refine And.intro ?_ ?_ | (intro hb; try simp at hb) | omega | exact rfl | refine aRegion_auto (by decide +kernel) ?_ | refine ⟨_, _, REnt.drop ⟨rfl, rfl⟩, ?_⟩ | fail))
        refine ⟨[(4, .ptr 0 0), (5, .ptr 1 0), (6, .ptr 2 0), (7, .ptr 3 0), (9, .ptr 4 0), (10, .ref 5 0 L1.length), (12, .fz .bool fB), (13, .fz .bool fC), (14, .fz .bool fD)], [.box [.fz int p.1, .fz int p.2], .box [.fz int q.1, .fz int q.2], .box [.fz int r.1, .fz int r.2], .box [.fz int s.1, .fz int s.2], .box [.fz int 0, .fz int 0], .row SpT L1], Ent.ren [0, 1, 2, 3, 4, 6] rfl ?_ ?_, hc.out⟩
        · rw [e]; (repeat' (first | exact trivial | exact rfl | refine And.intro ?_ ?_))
        · rw [e2]; (repeat' (first | exact trivial | exact rfl | refine And.intro ?_ ?_))
    | false =>
      have e : L1 = ([] : Pts) := by rw [hL1]; unfold Shp.wif; rw [if_neg (by simp)]
      (repeat' (first | exact trivial | refine And.intro ?_ ?_ | (intro hb; try simp at hb) | omega | exact rfl | refine aRegion_auto (by decide +kernel) ?_ | refine ⟨_, _, REnt.drop ⟨rfl, rfl⟩, ?_⟩ | fail))
      refine ⟨[(4, .ptr 0 0), (5, .ptr 1 0), (6, .ptr 2 0), (7, .ptr 3 0), (9, .ptr 4 0), (10, .ref 5 0 L1.length), (12, .fz .bool fB), (13, .fz .bool fC), (14, .fz .bool fD)], [.box [.fz int p.1, .fz int p.2], .box [.fz int q.1, .fz int q.2], .box [.fz int r.1, .fz int r.2], .box [.fz int s.1, .fz int s.2], .box [.fz int 0, .fz int 0], .row SpT L1], Ent.sub ?_ ?_, hc.out⟩
      · rw [e]
      · rw [e]; (repeat' (first | exact trivial | exact rfl | refine And.intro ?_ ?_))
  obtain ⟨L2, hL2⟩ : ∃ L2, L2 = Shp.wif fB L1 s := ⟨_, rfl⟩
  have l2 : L2.length ≤ 2 := by rw [hL2]; have := wif_len fB L1 s; omega
  apply merge
  · intro hc
    cases fB with
    | true =>
      (repeat' (first | exact trivial | refine And.intro ?_ ?_ | (intro hb; try simp at hb) | omega | exact rfl | refine aRegion_auto (by decide +kernel) ?_ | refine ⟨_, _, REnt.drop ⟨rfl, rfl⟩, ?_⟩ | fail))
      refine acall_conv [.keep, .dat SpT] _ _ _ rfl trivial (acall_frame [5] [.row SpT L1] [.ref 0 0 L1.length, .fz SpT s] rfl ⟨⟨rfl, trivial⟩, trivial⟩ ⟨rfl, rfl⟩ rfl (with_any _ L1 (by omega) s _ (fun hin => ?_) (fun hin => ?_)))
      · have e : L2 = L1 := by rw [hL2]; unfold Shp.wif Shp.wth; rw [if_pos rfl, if_pos hin]
        (repeat' (first | exact trivial | refine And.intro ?_ ?_ | (intro hb; try simp at hb) | omega | exact rfl | refine aRegion_auto (by decide +kernel) ?_ | refine ⟨_, _, REnt.drop ⟨rfl, rfl⟩, ?_⟩ | fail))
        refine ⟨[(4, .ptr 0 0), (5, .ptr 1 0), (6, .ptr 2 0), (7, .ptr 3 0), (9, .ptr 4 0), (10, .ref 5 0 L2.length), (13, .fz .bool fC), (14, .fz .bool fD)], [.box [.fz int p.1, .fz int p.2], .box [.fz int q.1, .fz int q.2], .box [.fz int r.1, .fz int r.2], .box [.fz int s.1, .fz int s.2], .box [.fz int 0, .fz int 0], .row SpT L2], Ent.sub ?_ ?_, hc.out⟩
        · rw [e]
        · rw [e]; (repeat' (first | exact trivial | exact rfl | refine And.intro ?_ ?_))
      · have e : L2 = L1 ++ [s] := by rw [hL2]; unfold Shp.wif Shp.wth; rw [if_pos rfl, if_neg hin]
        have e2 : L2.length = L1.length + 1 := by rw [e]; simp
        (repeat' (first | exact trivial | refine And.intro ?_ ?_ | (intro hb; try simp at hb) | omega | exact rfl | refine aRegion_auto (by decide +kernel) ?_ | refine ⟨_, _, REnt.drop ⟨rfl, rfl⟩, ?_⟩ | fail))
        refine ⟨[(4, .ptr 0 0), (5, .ptr 1 0), (6, .ptr 2 0), (7, .ptr 3 0), (9, .ptr 4 0), (10, .ref 5 0 L2.length), (13, .fz .bool fC), (14, .fz .bool fD)], [.box [.fz int p.1, .fz int p.2], .box [.fz int q.1, .fz int q.2], .box [.fz int r.1, .fz int r.2], .box [.fz int s.1, .fz int s.2], .box [.fz int 0, .fz int 0], .row SpT L2], Ent.ren [0, 1, 2, 3, 4, 6] rfl ?_ ?_, hc.out⟩
        · rw [e]; (repeat' (first | exact trivial | exact rfl | refine And.intro ?_ ?_))
        · rw [e2]; (repeat' (first | exact trivial | exact rfl | refine And.intro ?_ ?_))
    | false =>
      have e : L2 = L1 := by rw [hL2]; unfold Shp.wif; rw [if_neg (by simp)]
      (repeat' (first | exact trivial | refine And.intro ?_ ?_ | (intro hb; try simp at hb) | omega | exact rfl | refine aRegion_auto (by decide +kernel) ?_ | refine ⟨_, _, REnt.drop ⟨rfl, rfl⟩, ?_⟩ | fail))
      refine ⟨[(4, .ptr 0 0), (5, .ptr 1 0), (6, .ptr 2 0), (7, .ptr 3 0), (9, .ptr 4 0), (10, .ref 5 0 L2.length), (13, .fz .bool fC), (14, .fz .bool fD)], [.box [.fz int p.1, .fz int p.2], .box [.fz int q.1, .fz int q.2], .box [.fz int r.1, .fz int r.2], .box [.fz int s.1, .fz int s.2], .box [.fz int 0, .fz int 0], .row SpT L2], Ent.sub ?_ ?_, hc.out⟩
      · rw [e]
      · rw [e]; (repeat' (first | exact trivial | exact rfl | refine And.intro ?_ ?_))
  obtain ⟨L3, hL3⟩ : ∃ L3, L3 = Shp.wif fC L2 p := ⟨_, rfl⟩
  have l3 : L3.length ≤ 3 := by rw [hL3]; have := wif_len fC L2 p; omega
  apply merge
  · intro hc
    cases fC with
    | true =>
      (repeat' (first | exact trivial | refine And.intro ?_ ?_ | (intro hb; try simp at hb) | omega | exact rfl | refine aRegion_auto (by decide +kernel) ?_ | refine ⟨_, _, REnt.drop ⟨rfl, rfl⟩, ?_⟩ | fail))
      refine acall_conv [.keep, .dat SpT] _ _ _ rfl trivial (acall_frame [5] [.row SpT L2] [.ref 0 0 L2.length, .fz SpT p] rfl ⟨⟨rfl, trivial⟩, trivial⟩ ⟨rfl, rfl⟩ rfl (with_any _ L2 (by omega) p _ (fun hin => ?_) (fun hin => ?_)))
      · have e : L3 = L2 := by rw [hL3]; unfold Shp.wif Shp.wth; rw [if_pos rfl, if_pos hin]
        (repeat' (first | exact trivial | refine And.intro ?_ ?_ | (intro hb; try simp at hb) | omega | exact rfl | refine aRegion_auto (by decide +kernel) ?_ | refine ⟨_, _, REnt.drop ⟨rfl, rfl⟩, ?_⟩ | fail))
        refine ⟨[(4, .ptr 0 0), (5, .ptr 1 0), (6, .ptr 2 0), (7, .ptr 3 0), (9, .ptr 4 0), (10, .ref 5 0 L3.length), (14, .fz .bool fD)], [.box [.fz int p.1, .fz int p.2], .box [.fz int q.1, .fz int q.2], .box [.fz int r.1, .fz int r.2], .box [.fz int s.1, .fz int s.2], .box [.fz int 0, .fz int 0], .row SpT L3], Ent.sub ?_ ?_, hc.out⟩
        · rw [e]
        · rw [e]; (repeat' (first | exact trivial | exact rfl | refine And.intro ?_ ?_))
      · have e : L3 = L2 ++ [p] := by rw [hL3]; unfold Shp.wif Shp.wth; rw [if_pos rfl, if_neg hin]
        have e2 : L3.length = L2.length + 1 := by rw [e]; simp
        (repeat' (first | exact trivial | refine And.intro ?_ ?_ | (intro hb; try simp at hb) | omega | exact rfl | refine aRegion_auto (by decide +kernel) ?_ | refine ⟨_, _, REnt.drop ⟨rfl, rfl⟩, ?_⟩ | fail))
        refine ⟨[(4, .ptr 0 0), (5, .ptr 1 0), (6, .ptr 2 0), (7, .ptr 3 0), (9, .ptr 4 0), (10, .ref 5 0 L3.length), (14, .fz .bool fD)], [.box [.fz int p.1, .fz int p.2], .box [.fz int q.1, .fz int q.2], .box [.fz int r.1, .fz int r.2], .box [.fz int s.1, .fz int s.2], .box [.fz int 0, .fz int 0], .row SpT L3], Ent.ren [0, 1, 2, 3, 4, 6] rfl ?_ ?_, hc.out⟩
        · rw [e]; (repeat' (first | exact trivial | exact rfl | refine And.intro ?_ ?_))
        · rw [e2]; (repeat' (first | exact trivial | exact rfl | refine And.intro ?_ ?_))
    | false =>
      have e : L3 = L2 := by rw [hL3]; unfold Shp.wif; rw [if_neg (by simp)]
      (repeat' (first | exact trivial | refine And.intro ?_ ?_ | (intro hb; try simp at hb) | omega | exact rfl | refine aRegion_auto (by decide +kernel) ?_ | refine ⟨_, _, REnt.drop ⟨rfl, rfl⟩, ?_⟩ | fail))
      refine ⟨[(4, .ptr 0 0), (5, .ptr 1 0), (6, .ptr 2 0), (7, .ptr 3 0), (9, .ptr 4 0), (10, .ref 5 0 L3.length), (14, .fz .bool fD)], [.box [.fz int p.1, .fz int p.2], .box [.fz int q.1, .fz int q.2], .box [.fz int r.1, .fz int r.2], .box [.fz int s.1, .fz int s.2], .box [.fz int 0, .fz int 0], .row SpT L3], Ent.sub ?_ ?_, hc.out⟩
      · rw [e]
      · rw [e]; (repeat' (first | exact trivial | exact rfl | refine And.intro ?_ ?_))
  obtain ⟨L4, hL4⟩ : ∃ L4, L4 = Shp.wif fD L3 q := ⟨_, rfl⟩
  have l4 : L4.length ≤ 4 := by rw [hL4]; have := wif_len fD L3 q; omega
  apply merge
  · intro hc
    cases fD with
    | true =>
      (repeat' (first | exact trivial | refine And.intro ?_ ?_ | (intro hb; try simp at hb) | omega | exact rfl | refine aRegion_auto (by decide +kernel) ?_ | refine ⟨_, _, REnt.drop ⟨rfl, rfl⟩, ?_⟩ | fail))
      refine acall_conv [.keep, .dat SpT] _ _ _ rfl trivial (acall_frame [5] [.row SpT L3] [.ref 0 0 L3.length, .fz SpT q] rfl ⟨⟨rfl, trivial⟩, trivial⟩ ⟨rfl, rfl⟩ rfl (with_any _ L3 (by omega) q _ (fun hin => ?_) (fun hin => ?_)))
      · have e : L4 = L3 := by rw [hL4]; unfold Shp.wif Shp.wth; rw [if_pos rfl, if_pos hin]
        (repeat' (first | exact trivial | refine And.intro ?_ ?_ | (intro hb; try simp at hb) | omega | exact rfl | refine aRegion_auto (by decide +kernel) ?_ | refine ⟨_, _, REnt.drop ⟨rfl, rfl⟩, ?_⟩ | fail))
        refine ⟨[(4, .ptr 0 0), (5, .ptr 1 0), (6, .ptr 2 0), (7, .ptr 3 0), (9, .ptr 4 0), (10, .ref 5 0 L4.length)], [.box [.fz int p.1, .fz int p.2], .box [.fz int q.1, .fz int q.2], .box [.fz int r.1, .fz int r.2], .box [.fz int s.1, .fz int s.2], .box [.fz int 0, .fz int 0], .row SpT L4], Ent.sub ?_ ?_, hc.out⟩
        · rw [e]
        · rw [e]; (repeat' (first | exact trivial | exact rfl | refine And.intro ?_ ?_))
      · have e : L4 = L3 ++ [q] := by rw [hL4]; unfold Shp.wif Shp.wth; rw [if_pos rfl, if_neg hin]
        have e2 : L4.length = L3.length + 1 := by rw [e]; simp
        (repeat' (first | exact trivial | refine And.intro ?_ ?_ | (intro hb; try simp at hb) | omega | exact rfl | refine aRegion_auto (by decide +kernel) ?_ | refine ⟨_, _, REnt.drop ⟨rfl, rfl⟩, ?_⟩ | fail))
        refine ⟨[(4, .ptr 0 0), (5, .ptr 1 0), (6, .ptr 2 0), (7, .ptr 3 0), (9, .ptr 4 0), (10, .ref 5 0 L4.length)], [.box [.fz int p.1, .fz int p.2], .box [.fz int q.1, .fz int q.2], .box [.fz int r.1, .fz int r.2], .box [.fz int s.1, .fz int s.2], .box [.fz int 0, .fz int 0], .row SpT L4], Ent.ren [0, 1, 2, 3, 4, 6] rfl ?_ ?_, hc.out⟩
        · rw [e]; (repeat' (first | exact trivial | exact rfl | refine And.intro ?_ ?_))
        · rw [e2]; (repeat' (first | exact trivial | exact rfl | refine And.intro ?_ ?_))
    | false =>
      have e : L4 = L3 := by rw [hL4]; unfold Shp.wif; rw [if_neg (by simp)]
      (repeat' (first | exact trivial | refine And.intro ?_ ?_ | (intro hb; try simp at hb) | omega | exact rfl | refine aRegion_auto (by decide +kernel) ?_ | refine ⟨_, _, REnt.drop ⟨rfl, rfl⟩, ?_⟩ | fail))
      refine ⟨[(4, .ptr 0 0), (5, .ptr 1 0), (6, .ptr 2 0), (7, .ptr 3 0), (9, .ptr 4 0), (10, .ref 5 0 L4.length)], [.box [.fz int p.1, .fz int p.2], .box [.fz int q.1, .fz int q.2], .box [.fz int r.1, .fz int r.2], .box [.fz int s.1, .fz int s.2], .box [.fz int 0, .fz int 0], .row SpT L4], Ent.sub ?_ ?_, hc.out⟩
      · rw [e]
      · rw [e]; (repeat' (first | exact trivial | exact rfl | refine And.intro ?_ ?_))
  have eL : L4 = Shp.coml p q r s := by unfold Shp.coml; rw [eA, eB, eC, eD, hL4, hL3, hL2, hL1]
  clear hL1 hL2 hL3 hL4
  have z1 := sg_bd (Shp.side p q r)
  have z2 := sg_bd (Shp.side p q s)
  have z3 := sg_bd (Shp.side r s p)
  have z4 := sg_bd (Shp.side r s q)
  have m1 := sg_mul z1 z2
  have m2 := sg_mul z3 z4
  unfold Shp.com at hK
  rw [← eL] at hK
  by_cases c1 : 1 < L4.length
  · rw [if_pos c1] at hK
    (repeat' (first | exact trivial | refine And.intro ?_ ?_ | (intro hb; try simp at hb) | omega | exact rfl | refine aRegion_auto (by decide +kernel) ?_ | refine ⟨_, _, REnt.drop ⟨rfl, rfl⟩, ?_⟩ | fail))
    exact hK
  · rw [if_neg c1] at hK
    by_cases c2 : L4.length = 1
    · rw [if_pos c2] at hK
      (repeat' (first | exact trivial | refine And.intro ?_ ?_ | (intro hb; try simp at hb) | omega | exact rfl | refine aRegion_auto (by decide +kernel) ?_ | refine ⟨_, _, REnt.drop ⟨rfl, rfl⟩, ?_⟩ | fail))
      (apply exEff; focus (repeat' (first | exact ⟨rfl, rfl⟩ | exact trivial | refine And.intro ?_ ?_ | omega | exact Nat.le_refl _ | (show _ + 1 ≤ 4294967296; omega) | (show _ + 1 ≤ 5864062014634; omega))))
      (repeat' (first | exact trivial | refine And.intro ?_ ?_ | (intro hb; try simp at hb) | omega | exact rfl | refine aRegion_auto (by decide +kernel) ?_ | refine ⟨_, _, REnt.drop ⟨rfl, rfl⟩, ?_⟩ | fail))
      exact hK
    · rw [if_neg c2] at hK
      (repeat' (first | exact trivial | exact fun h => h | refine And.intro ?_ ?_ | (intro hb; try simp at hb) | omega | exact rfl | exact Nat.le_refl _ | (show _ + 1 ≤ 4294967296; omega) | (show _ + 1 ≤ 5864062014634; omega) | (dsimp only; omega) | (show (_ : Int) ≤ (_ : Int); omega) | (show _ < List.length _; simp only [List.length_set, List.length_append, List.length_take]; omega) | (show wantB _ _ = true; simp <;> omega) | (show (_ : Bool) = _; simp_all; done) | (exfalso; omega) | refine aRegion_auto (by decide +kernel) ?_ | refine ⟨_, _, REnt.drop ⟨rfl, rfl⟩, ?_⟩ | fail))
      apply exEff
      · refine acall_conv [.dat SpT, .dat SpT, .dat SpT] _ _ _ rfl trivial (acall_frame0 rfl (turn_any _ p q r hp hq hr _ ?_))
        exact ⟨rfl, rfl⟩
      (repeat' (first | exact trivial | refine And.intro ?_ ?_ | (intro hb; try simp at hb) | omega | exact rfl | refine aRegion_auto (by decide +kernel) ?_ | refine ⟨_, _, REnt.drop ⟨rfl, rfl⟩, ?_⟩ | fail))
      apply exEff
      · refine acall_frame0 rfl (signOf_any _ (Shp.side p q r) _ ?_)
        exact ⟨rfl, rfl⟩
      (repeat' (first | exact trivial | refine And.intro ?_ ?_ | (intro hb; try simp at hb) | omega | exact rfl | refine aRegion_auto (by decide +kernel) ?_ | refine ⟨_, _, REnt.drop ⟨rfl, rfl⟩, ?_⟩ | fail))
      apply exEff
      · refine acall_conv [.dat SpT, .dat SpT, .dat SpT] _ _ _ rfl trivial (acall_frame0 rfl (turn_any _ p q s hp hq hs _ ?_))
        exact ⟨rfl, rfl⟩
      (repeat' (first | exact trivial | refine And.intro ?_ ?_ | (intro hb; try simp at hb) | omega | exact rfl | refine aRegion_auto (by decide +kernel) ?_ | refine ⟨_, _, REnt.drop ⟨rfl, rfl⟩, ?_⟩ | fail))
      apply exEff
      · refine acall_frame0 rfl (signOf_any _ (Shp.side p q s) _ ?_)
        exact ⟨rfl, rfl⟩
      (repeat' (first | exact trivial | refine And.intro ?_ ?_ | (intro hb; try simp at hb) | omega | exact rfl | refine aRegion_auto (by decide +kernel) ?_ | refine ⟨_, _, REnt.drop ⟨rfl, rfl⟩, ?_⟩ | fail))
      apply exEff
      · refine acall_conv [.dat SpT, .dat SpT, .dat SpT] _ _ _ rfl trivial (acall_frame0 rfl (turn_any _ r s p hr hs hp _ ?_))
        exact ⟨rfl, rfl⟩
      (repeat' (first | exact trivial | exact fun h => h | refine And.intro ?_ ?_ | (intro hb; try simp at hb) | omega | exact rfl | exact Nat.le_refl _ | (show _ + 1 ≤ 4294967296; omega) | (show _ + 1 ≤ 5864062014634; omega) | (dsimp only; omega) | (show (_ : Int) ≤ (_ : Int); omega) | (show _ < List.length _; simp only [List.length_set, List.length_append, List.length_take]; omega) | (show wantB _ _ = true; simp <;> omega) | (show (_ : Bool) = _; simp_all; done) | (exfalso; omega) | refine aRegion_auto (by decide +kernel) ?_ | refine ⟨_, _, REnt.drop ⟨rfl, rfl⟩, ?_⟩ | fail))
      apply exEff
      · refine acall_frame0 rfl (signOf_any _ (Shp.side r s p) _ ?_)
        exact ⟨rfl, rfl⟩
      (repeat' (first | exact trivial | exact fun h => h | refine And.intro ?_ ?_ | (intro hb; try simp at hb) | omega | exact rfl | exact Nat.le_refl _ | (show _ + 1 ≤ 4294967296; omega) | (show _ + 1 ≤ 5864062014634; omega) | (dsimp only; omega) | (show (_ : Int) ≤ (_ : Int); omega) | (show _ < List.length _; simp only [List.length_set, List.length_append, List.length_take]; omega) | (show wantB _ _ = true; simp <;> omega) | (show (_ : Bool) = _; simp_all; done) | (exfalso; omega) | refine aRegion_auto (by decide +kernel) ?_ | refine ⟨_, _, REnt.drop ⟨rfl, rfl⟩, ?_⟩ | fail))
      apply exEff
      · refine acall_conv [.dat SpT, .dat SpT, .dat SpT] _ _ _ rfl trivial (acall_frame0 rfl (turn_any _ r s q hr hs hq _ ?_))
        exact ⟨rfl, rfl⟩
      (repeat' (first | exact trivial | exact fun h => h | refine And.intro ?_ ?_ | (intro hb; try simp at hb) | omega | exact rfl | exact Nat.le_refl _ | (show _ + 1 ≤ 4294967296; omega) | (show _ + 1 ≤ 5864062014634; omega) | (dsimp only; omega) | (show (_ : Int) ≤ (_ : Int); omega) | (show _ < List.length _; simp only [List.length_set, List.length_append, List.length_take]; omega) | (show wantB _ _ = true; simp <;> omega) | (show (_ : Bool) = _; simp_all; done) | (exfalso; omega) | refine aRegion_auto (by decide +kernel) ?_ | refine ⟨_, _, REnt.drop ⟨rfl, rfl⟩, ?_⟩ | fail))
      apply exEff
      · refine acall_frame0 rfl (signOf_any _ (Shp.side r s q) _ ?_)
        exact ⟨rfl, rfl⟩
      (repeat' (first | exact trivial | exact fun h => h | refine And.intro ?_ ?_ | (intro hb; try simp at hb) | omega | exact rfl | exact Nat.le_refl _ | (show _ + 1 ≤ 4294967296; omega) | (show _ + 1 ≤ 5864062014634; omega) | (dsimp only; omega) | (show (_ : Int) ≤ (_ : Int); omega) | (show _ < List.length _; simp only [List.length_set, List.length_append, List.length_take]; omega) | (show wantB _ _ = true; simp <;> omega) | (show (_ : Bool) = _; simp_all; done) | (exfalso; omega) | refine aRegion_auto (by decide +kernel) ?_ | refine ⟨_, _, REnt.drop ⟨rfl, rfl⟩, ?_⟩ | fail))
      · have hc : Shp.crs p q r s = true := by unfold Shp.crs; simp [hb]
        rw [if_pos hc] at hK
        exact hK
      · have hc : Shp.crs p q r s = false := by
          unfold Shp.crs
          by_cases h1 : Shp.sgZ (Shp.side p q r) * Shp.sgZ (Shp.side p q s) < 0
          · have := hb h1
            simp [h1]; omega
          · simp [h1]
        rw [if_neg (by rw [hc]; simp)] at hK
        exact hK
end Go.Proofs.YtcfalmdfohphoaaDoor
/-
  Which maps are right, told by the document: the pieces.
-/
namespace Go.Proofs.YtcfalmdfohphoaaDoor
open Go Go.Ab
set_option maxRecDepth 100000
theorem notB {b : Bool} (h : ¬ b = true) : b = false := Bool.eq_false_iff.2 h
set_option maxHeartbeats 4000000 in
theorem apart_any (G : List (Nat × Value)) (m : Shp.Arcs) (B : MB m) (K : AV → List AO → Prop) (hK : ∀ b : Bool, (b = true ↔ Shp.apR m) → K (.fz .bool b) []) : ACall Tryd.prog G 24 [.fptr MpT m] [] K := by
  have hat : ∀ i : Nat, List.getD m (Int.toNat (i : Int)) SpT.list.dft = Shp.arc m i := fun i => rfl
  have hfew := B.few
  have hfalse : (∃ i k j n, Shp.isP m i k ∧ Shp.isP m j n ∧ (j < i ∨ (j = i ∧ n < k)) ∧ Shp.okR m i k j n = false) → K (.fz .bool false) [] := fun ⟨i, k, j, n, h1, h2, h3, h4⟩ => hK false ⟨fun h => (by cases h), fun h => (by rw [h i k j n h1 h2 h3] at h4; cases h4)⟩
  let Ok (i k j n : Nat) : Prop := Shp.isP m i k → Shp.isP m j n → (j < i ∨ (j = i ∧ n < k)) → Shp.okR m i k j n = true
  refine acall_mk (E := envCut G 159 0 [17, 19, 21, 22, 23]) (envCutOk _ _ _ _) Tryd.func24 rfl rfl rfl rfl rfl ?_
  (repeat' (first | exact trivial | refine And.intro ?_ ?_ | (intro hb; try simp at hb) | omega | exact rfl | refine aRegion_auto (by decide +kernel) ?_ | fail))
  refine ⟨Nat, fun i => ⟨[(0, .fptr MpT m), (3, .fz int i)], []⟩, fun i => i ≤ m.length ∧ ∀ p k j n, p < i → Ok p k j n, fun i => m.length - i, 0, ⟨Nat.zero_le _, fun p k j n h => absurd h (Nat.not_lt_zero _)⟩, Ent.sub rfl ?_, ?_⟩
  · (repeat' (first | exact trivial | exact rfl | refine And.intro ?_ ?_))
  intro i ⟨hi, h1⟩
  have hi : i ≤ m.length := hi
  have h1 : ∀ p k j n, p < i → Ok p k j n := h1
  show awp _ _ _ ⟨[(0, .fptr MpT m), (3, .fz int i)], []⟩
  by_cases him : i < m.length
  · obtain ⟨a, ha⟩ : ∃ a, Shp.arc m i = a := ⟨_, rfl⟩
    have hga := hat i
    have hal := B.len i him
    have ha2 := B.two i him
    rw [ha] at hga hal ha2
    (repeat' (first | exact trivial | refine And.intro ?_ ?_ | (intro hb; try simp at hb) | omega | exact rfl | refine aRegion_auto (by decide +kernel) ?_ | fail))
    rw [hga]
    (repeat' (first | exact trivial | refine And.intro ?_ ?_ | (intro hb; try simp at hb) | omega | exact rfl | refine aRegion_auto (by decide +kernel) ?_ | fail))
    refine ⟨Nat, fun k => ⟨[(0, .fptr MpT m), (3, .fz int i), (4, .fz (.list SpT) a), (5, .fz int k)], []⟩, fun k => k + 1 ≤ a.length ∧ ∀ q j n, q < k → Ok i q j n, fun k => a.length - k, 0, ⟨by omega, fun q j n h => absurd h (Nat.not_lt_zero _)⟩, Ent.sub rfl ?_, ?_⟩
    · (repeat' (first | exact trivial | exact rfl | refine And.intro ?_ ?_))
    intro k ⟨hk, h2⟩
    have hk : k + 1 ≤ a.length := hk
    have h2 : ∀ q j n, q < k → Ok i q j n := h2
    show awp _ _ _ ⟨[(0, .fptr MpT m), (3, .fz int i), (4, .fz (.list SpT) a), (5, .fz int k)], []⟩
    by_cases hka : k + 1 < a.length
    · (repeat' (first | exact trivial | refine And.intro ?_ ?_ | (intro hb; try simp at hb) | omega | exact rfl | refine aRegion_auto (by decide +kernel) ?_ | fail))
      refine ⟨Nat, fun j => ⟨[(0, .fptr MpT m), (3, .fz int i), (4, .fz (.list SpT) a), (5, .fz int k), (6, .fz int j)], []⟩, fun j => j ≤ i + 1 ∧ ∀ p n, p < j → Ok i k p n, fun j => i + 1 - j, 0, ⟨Nat.zero_le _, fun p n h => absurd h (Nat.not_lt_zero _)⟩, Ent.sub rfl ?_, ?_⟩
      · (repeat' (first | exact trivial | exact rfl | refine And.intro ?_ ?_))
      intro j ⟨hj, h3⟩
      have hj : j ≤ i + 1 := hj
      have h3 : ∀ p n, p < j → Ok i k p n := h3
      show awp _ _ _ ⟨[(0, .fptr MpT m), (3, .fz int i), (4, .fz (.list SpT) a), (5, .fz int k), (6, .fz int j)], []⟩
      by_cases hji : j ≤ i
      · obtain ⟨b, hb0⟩ : ∃ b, Shp.arc m j = b := ⟨_, rfl⟩
        have hgb := hat j
        have hbl := B.len j (by omega)
        have hb2 := B.two j (by omega)
        rw [hb0] at hgb hbl hb2
        (repeat' (first | exact trivial | refine And.intro ?_ ?_ | (intro hb; try simp at hb) | omega | exact rfl | refine aRegion_auto (by decide +kernel) ?_ | fail))
        rw [hgb]
        (repeat' (first | exact trivial | exact fun h => h | refine And.intro ?_ ?_ | (intro hb; try simp at hb) | omega | exact rfl | exact Nat.le_refl _ | (show _ + 1 ≤ 4294967296; omega) | (show _ + 1 ≤ 5864062014634; omega) | (dsimp only; omega) | (show (_ : Int) ≤ (_ : Int); omega) | (show _ < List.length _; simp only [List.length_set, List.length_append, List.length_take]; omega) | (show wantB _ _ = true; simp <;> omega) | (show (_ : Bool) = _; simp_all; done) | (exfalso; omega) | refine aRegion_auto (by decide +kernel) ?_ | fail))
        refine ⟨Nat, fun n => ⟨[(0, .fptr MpT m), (3, .fz int i), (4, .fz (.list SpT) a), (5, .fz int k), (6, .fz int j), (7, .fz (.list SpT) b), (8, .fz int n)], []⟩, fun n => n + 1 ≤ b.length ∧ ∀ q, q < n → Ok i k j q, fun n => b.length - n, 0, ⟨by omega, fun q h => absurd h (Nat.not_lt_zero _)⟩, Ent.sub rfl ?_, ?_⟩
        · (repeat' (first | exact trivial | exact rfl | refine And.intro ?_ ?_))
        intro n ⟨hn, h4⟩
        have hn : n + 1 ≤ b.length := hn
        have h4 : ∀ q, q < n → Ok i k j q := h4
        show awp _ _ _ ⟨[(0, .fptr MpT m), (3, .fz int i), (4, .fz (.list SpT) a), (5, .fz int k), (6, .fz int j), (7, .fz (.list SpT) b), (8, .fz int n)], []⟩
        have hbrk : (∀ q, n ≤ q → Ok i k j q) → ∀ p q, p < j + 1 → Ok i k p q := fun h p q hp => by
          by_cases c : p = j
          · subst c
            by_cases c2 : q < n
            · exact h4 q c2
            · exact h q (by omega)
          · exact h3 p q (by omega)
        by_cases hnb : n + 1 < b.length
        · by_cases hst : j = i ∧ k ≤ n
          · have hd1 : decide ((j : Int) = (i : Int)) = true := decide_eq_true (by omega)
            (repeat' (first | exact trivial | exact fun h => h | refine And.intro ?_ ?_ | (intro hb; try simp at hb) | omega | exact rfl | exact Nat.le_refl _ | (show _ + 1 ≤ 4294967296; omega) | (show _ + 1 ≤ 5864062014634; omega) | (dsimp only; omega) | (show (_ : Int) ≤ (_ : Int); omega) | (show _ < List.length _; simp only [List.length_set, List.length_append, List.length_take]; omega) | (show wantB _ _ = true; simp <;> omega) | (show (_ : Bool) = _; simp_all; done) | (exfalso; omega) | refine aRegion_auto (by decide +kernel) ?_ | fail))
            refine ⟨j + 1, ⟨by show j + 1 ≤ i + 1; omega, hbrk fun q hq _ _ h => by omega⟩, by show i + 1 - (j + 1) < i + 1 - j; omega, Ent.sub rfl ?_⟩
            · (repeat' (first | exact trivial | exact rfl | refine And.intro ?_ ?_))
          · have hgo : Shp.okR m i k j n = true → ∀ q, q < n + 1 → Ok i k j q := fun h q hq => by
              by_cases c : q = n
              · subst c; exact fun _ _ _ => h
              · exact h4 q (by omega)
            have hip : Shp.isP m i k := ⟨him, by rw [ha]; exact hka⟩
            have hjn : Shp.isP m j n := ⟨by omega, by rw [hb0]; exact hnb⟩
            have hord : j < i ∨ (j = i ∧ n < k) := by omega
            have hno : Shp.okR m i k j n = false → K (.fz .bool false) [] := fun h => hfalse ⟨i, k, j, n, hip, hjn, hord, h⟩
            have hoR : Shp.okR m i k j n = (decide ((Shp.com (Shp.at_ a k) (Shp.at_ a (k + 1)) (Shp.at_ b n) (Shp.at_ b (n + 1))).1 = 0) || (!decide ((Shp.com (Shp.at_ a k) (Shp.at_ a (k + 1)) (Shp.at_ b n) (Shp.at_ b (n + 1))).1 = 2) && Shp.enB (Shp.at_ a k) (Shp.at_ a (k + 1)) (Shp.at_ b n) (Shp.at_ b (n + 1)) (Shp.com (Shp.at_ a k) (Shp.at_ a (k + 1)) (Shp.at_ b n) (Shp.at_ b (n + 1))).2 &&
                ((decide (j = i) && decide (n + 1 = k) && decide ((Shp.com (Shp.at_ a k) (Shp.at_ a (k + 1)) (Shp.at_ b n) (Shp.at_ b (n + 1))).2 = Shp.at_ a k)) || (Shp.ndB a k (Shp.com (Shp.at_ a k) (Shp.at_ a (k + 1)) (Shp.at_ b n) (Shp.at_ b (n + 1))).2 && Shp.ndB b n (Shp.com (Shp.at_ a k) (Shp.at_ a (k + 1)) (Shp.at_ b n) (Shp.at_ b (n + 1))).2)))) := by
              unfold Shp.okR Shp.pt
              rw [ha, hb0]
            have p1 : plB (Shp.at_ a k) = true := by have := B.pl i k ⟨him, by rw [ha]; omega⟩; unfold Shp.pt at this; rwa [ha] at this
            have p2 : plB (Shp.at_ a (k + 1)) = true := by have := B.pl i (k + 1) ⟨him, by rw [ha]; omega⟩; unfold Shp.pt at this; rwa [ha] at this
            have p3 : plB (Shp.at_ b n) = true := by have := B.pl j n ⟨by omega, by rw [hb0]; omega⟩; unfold Shp.pt at this; rwa [hb0] at this
            have p4 : plB (Shp.at_ b (n + 1)) = true := by have := B.pl j (n + 1) ⟨by omega, by rw [hb0]; omega⟩; unfold Shp.pt at this; rwa [hb0] at this
            have g1 : List.getD a (Int.toNat (k : Int)) SpT.dft = Shp.at_ a k := rfl
            have g2 : List.getD a (Int.toNat ((k : Int) + 1)) SpT.dft = Shp.at_ a (k + 1) := rfl
            have g3 : List.getD b (Int.toNat (n : Int)) SpT.dft = Shp.at_ b n := rfl
            have g4 : List.getD b (Int.toNat ((n : Int) + 1)) SpT.dft = Shp.at_ b (n + 1) := rfl
            have hca := common_any G (Shp.at_ a k) (Shp.at_ a (k + 1)) (Shp.at_ b n) (Shp.at_ b (n + 1)) p1 p2 p3 p4
            generalize Shp.com (Shp.at_ a k) (Shp.at_ a (k + 1)) (Shp.at_ b n) (Shp.at_ b (n + 1)) = cm at hoR hca
            obtain ⟨mn, x⟩ := cm
            dsimp only at hoR hca
            (repeat' (first | exact trivial | exact fun h => h | refine And.intro ?_ ?_ | (intro hb; try simp at hb) | omega | exact rfl | exact Nat.le_refl _ | (show _ + 1 ≤ 4294967296; omega) | (show _ + 1 ≤ 5864062014634; omega) | (dsimp only; omega) | (show (_ : Int) ≤ (_ : Int); omega) | (show _ < List.length _; simp only [List.length_set, List.length_append, List.length_take]; omega) | (show wantB _ _ = true; simp <;> omega) | (show (_ : Bool) = _; simp_all; done) | (exfalso; omega) | refine aRegion_auto (by decide +kernel) ?_ | fail))
            let rb : AO := .room
            let bz : AO := .box [.fz int 0, .fz int 0]
            let bo : AO := .box [.fz int x.1, .fz int x.2]
            refine aRegion_open 1 (by decide +kernel) ?_
            (repeat' (first | exact trivial | exact fun h => h | refine And.intro ?_ ?_ | (intro hb; try simp at hb) | omega | exact rfl | exact Nat.le_refl _ | (show _ + 1 ≤ 4294967296; omega) | (show _ + 1 ≤ 5864062014634; omega) | (dsimp only; omega) | (show (_ : Int) ≤ (_ : Int); omega) | (show _ < List.length _; simp only [List.length_set, List.length_append, List.length_take]; omega) | (show wantB _ _ = true; simp <;> omega) | (show (_ : Bool) = _; simp_all; done) | (exfalso; omega) | refine aRegion_auto (by decide +kernel) ?_ | fail))
            refine eff_is (.tup [.fz int mn, .agg [.fz int x.1, .fz int x.2]]) [rb] ?_
            (repeat' (first | exact trivial | refine And.intro ?_ ?_ | (intro hb; try simp at hb) | omega | exact rfl | refine aRegion_auto (by decide +kernel) ?_ | fail))
            refine eff_is (.ptr 0 0) [bz] ?_
            (repeat' (first | exact trivial | refine And.intro ?_ ?_ | (intro hb; try simp at hb) | omega | exact rfl | refine aRegion_auto (by decide +kernel) ?_ | fail))
            refine eff_is .unk [bo] ?_
            refine ⟨[(0, [rb]), (262144, [rb]), (4194304, [bz]), (4456448, [bz]), (21233664, [bo])], rfl, rfl, ?_, ?_⟩
            · (repeat' (first | refine And.intro ?_ ?_ | exact trivial | exact rfl | omega))
              · refine acall_conv [.dat SpT, .dat SpT, .dat SpT, .dat SpT] _ _ _ rfl trivial (acall_frame0 rfl (hca _ ?_))
                refine view_of [0] rfl ?_ rfl rfl
                (repeat' (first | exact trivial | exact rfl | refine And.intro ?_ ?_))
              · refine view_of [1] rfl ?_ rfl rfl
                (repeat' (first | exact trivial | exact rfl | refine And.intro ?_ ?_))
              · refine view_of [1] rfl ?_ rfl rfl
                (repeat' (first | exact trivial | exact rfl | refine And.intro ?_ ?_))
              · refine acall_conv [.dat SpT, .dat SpT, .dat SpT, .dat SpT] _ _ _ rfl trivial (acall_frame0 rfl (hca _ ?_))
                refine view_of [0] rfl ?_ rfl rfl
                (repeat' (first | exact trivial | exact rfl | refine And.intro ?_ ?_))
              · refine view_of [0] rfl ?_ rfl rfl
                (repeat' (first | exact trivial | exact rfl | refine And.intro ?_ ?_))
            · refine ⟨[(0, .fptr MpT m), (3, .fz int i), (4, .fz (.list SpT) a), (5, .fz int k), (6, .fz int j), (7, .fz (.list SpT) b), (8, .fz int n), (9, .fz int mn), (10, .ptr 0 0)], [.box [.fz int x.1, .fz int x.2]], Ent.sub rfl ?_, ?_⟩
              · (repeat' (first | exact trivial | exact rfl | refine And.intro ?_ ?_))
              by_cases h0 : mn = 0
              · have hy : Shp.okR m i k j n = true := by rw [hoR, decide_eq_true h0, Bool.true_or]
                (repeat' (first | exact trivial | refine And.intro ?_ ?_ | (intro hb; try simp at hb) | omega | exact rfl | refine aRegion_auto (by decide +kernel) ?_ | fail))
                refine ⟨n + 1, ⟨by show n + 1 + 1 ≤ b.length; omega, hgo hy⟩, by show b.length - (n + 1) < b.length - n; omega, Ent.ren [] rfl trivial ?_⟩
                · (repeat' (first | exact trivial | exact rfl | refine And.intro ?_ ?_))
              · have eP : eqL [x.1, x.2] ([(List.getD a (Int.toNat (k : Int)) SpT.dft).1] ++ [(List.getD a (Int.toNat (k : Int)) SpT.dft).2]) = decide (x = Shp.at_ a k) := eqS _ _
                have eQ : eqL [x.1, x.2] ([(List.getD a (Int.toNat ((k : Int) + 1)) SpT.dft).1] ++ [(List.getD a (Int.toNat ((k : Int) + 1)) SpT.dft).2]) = decide (x = Shp.at_ a (k + 1)) := eqS _ _
                have eR : eqL [x.1, x.2] ([(List.getD b (Int.toNat (n : Int)) SpT.dft).1] ++ [(List.getD b (Int.toNat (n : Int)) SpT.dft).2]) = decide (x = Shp.at_ b n) := eqS _ _
                have eS : eqL [x.1, x.2] ([(List.getD b (Int.toNat ((n : Int) + 1)) SpT.dft).1] ++ [(List.getD b (Int.toNat ((n : Int) + 1)) SpT.dft).2]) = decide (x = Shp.at_ b (n + 1)) := eqS _ _
                unfold Shp.enB at hoR
                rw [decide_eq_false h0, Bool.false_or] at hoR
                generalize decide (x = Shp.at_ a k) = q1 at hoR eP
                generalize decide (x = Shp.at_ a (k + 1)) = q2 at hoR eQ
                generalize decide (x = Shp.at_ b n) = q3 at hoR eR
                generalize decide (x = Shp.at_ b (n + 1)) = q4 at hoR eS
                generalize he : ((q1 || q2) && (q3 || q4)) = e at hoR
                generalize hf : (decide (j = i) && decide (n + 1 = k) && q1) = f at hoR
                generalize hN1 : Shp.ndB a k x = N1 at hoR
                generalize hN2 : Shp.ndB b n x = N2 at hoR
                generalize hgg : (N1 && N2) = g at hoR
                (repeat' (first | exact trivial | exact fun h => h | refine And.intro ?_ ?_ | (intro hb; try simp at hb) | omega | exact rfl | exact Nat.le_refl _ | (show _ + 1 ≤ 4294967296; omega) | (show _ + 1 ≤ 5864062014634; omega) | (dsimp only; omega) | (show (_ : Int) ≤ (_ : Int); omega) | (show _ < List.length _; simp only [List.length_set, List.length_append, List.length_take]; omega) | (show wantB _ _ = true; simp <;> omega) | (show (_ : Bool) = _; simp_all; done) | (exfalso; omega) | refine aRegion_auto (by decide +kernel) ?_ | fail))
                rw [eP, eQ, eR, eS]
                apply merge
                · intro hc
                  cases q1 <;> cases q2
                  all_goals
                    (repeat' (first | exact trivial | refine And.intro ?_ ?_ | (intro hb; try simp at hb) | omega | exact rfl | refine aRegion_auto (by decide +kernel) ?_ | fail))
                    refine ⟨[(0, .fptr MpT m), (3, .fz int i), (4, .fz (.list SpT) a), (5, .fz int k), (6, .fz int j), (7, .fz (.list SpT) b), (8, .fz int n), (9, .fz int mn), (10, .ptr 0 0), (11, .fz .bool e)], [.box [.fz int x.1, .fz int x.2]], Ent.sub rfl ?_, hc.out⟩
                    (repeat' (first | exact trivial | exact rfl | refine And.intro ?_ ?_))
                    rw [← he]
                    cases q3 <;> rfl
                by_cases h2 : mn = 2
                · have hn0 := hno (by rw [hoR, decide_eq_true h2]; rfl)
                  (repeat' (first | exact trivial | exact fun h => h | refine And.intro ?_ ?_ | (intro hb; try simp at hb) | omega | exact rfl | exact Nat.le_refl _ | (show _ + 1 ≤ 4294967296; omega) | (show _ + 1 ≤ 5864062014634; omega) | (dsimp only; omega) | (show (_ : Int) ≤ (_ : Int); omega) | (show _ < List.length _; simp only [List.length_set, List.length_append, List.length_take]; omega) | (show wantB _ _ = true; simp <;> omega) | (show (_ : Bool) = _; simp_all; done) | (exfalso; omega) | refine aRegion_auto (by decide +kernel) ?_ | refine ⟨_, _, REnt.drop ⟨rfl, rfl⟩, ?_⟩ | fail))
                  exact hn0
                · rw [decide_eq_false h2] at hoR
                  cases e with
                  | false =>
                    have hn0 := hno hoR
                    (repeat' (first | exact trivial | exact fun h => h | refine And.intro ?_ ?_ | (intro hb; try simp at hb) | omega | exact rfl | exact Nat.le_refl _ | (show _ + 1 ≤ 4294967296; omega) | (show _ + 1 ≤ 5864062014634; omega) | (dsimp only; omega) | (show (_ : Int) ≤ (_ : Int); omega) | (show _ < List.length _; simp only [List.length_set, List.length_append, List.length_take]; omega) | (show wantB _ _ = true; simp <;> omega) | (show (_ : Bool) = _; simp_all; done) | (exfalso; omega) | refine aRegion_auto (by decide +kernel) ?_ | refine ⟨_, _, REnt.drop ⟨rfl, rfl⟩, ?_⟩ | fail))
                    exact hn0
                  | true =>
                    (repeat' (first | exact trivial | exact fun h => h | refine And.intro ?_ ?_ | (intro hb; try simp at hb) | omega | exact rfl | exact Nat.le_refl _ | (show _ + 1 ≤ 4294967296; omega) | (show _ + 1 ≤ 5864062014634; omega) | (dsimp only; omega) | (show (_ : Int) ≤ (_ : Int); omega) | (show _ < List.length _; simp only [List.length_set, List.length_append, List.length_take]; omega) | (show wantB _ _ = true; simp <;> omega) | (show (_ : Bool) = _; simp_all; done) | (exfalso; omega) | refine aRegion_auto (by decide +kernel) ?_ | fail))
                    refine ⟨[(0, .fptr MpT m), (3, .fz int i), (4, .fz (.list SpT) a), (5, .fz int k), (6, .fz int j), (7, .fz (.list SpT) b), (8, .fz int n), (10, .ptr 0 0)], [.box [.fz int x.1, .fz int x.2]], Ent.sub rfl ?_, ?_⟩
                    · (repeat' (first | exact trivial | exact rfl | refine And.intro ?_ ?_))
                    have hfx : (bif bif ((j : Int) == (i : Int)) then ((n : Int) + 1 == (k : Int)) else false then q1 else false) = f := by
                      have b1 : ((j : Int) == (i : Int)) = decide (j = i) := by rw [Bool.eq_iff_iff]; simp; omega
                      have b2 : ((n : Int) + 1 == (k : Int)) = decide (n + 1 = k) := by rw [Bool.eq_iff_iff]; simp; omega
                      rw [← hf, b1, b2]
                      cases decide (j = i) <;> cases decide (n + 1 = k) <;> rfl
                    (repeat' (first | exact trivial | exact fun h => h | refine And.intro ?_ ?_ | (intro hb; try simp at hb) | omega | exact rfl | exact Nat.le_refl _ | (show _ + 1 ≤ 4294967296; omega) | (show _ + 1 ≤ 5864062014634; omega) | (dsimp only; omega) | (show (_ : Int) ≤ (_ : Int); omega) | (show _ < List.length _; simp only [List.length_set, List.length_append, List.length_take]; omega) | (show wantB _ _ = true; simp <;> omega) | (show (_ : Bool) = _; simp_all; done) | (exfalso; omega) | refine aRegion_auto (by decide +kernel) ?_ | fail))
                    rw [eP]
                    refine ⟨[(0, .fptr MpT m), (3, .fz int i), (4, .fz (.list SpT) a), (5, .fz int k), (6, .fz int j), (7, .fz (.list SpT) b), (8, .fz int n), (10, .ptr 0 0), (12, .fz .bool f)], [.box [.fz int x.1, .fz int x.2]], Ent.sub rfl ?_, ?_⟩
                    · (repeat' (first | exact trivial | exact rfl | refine And.intro ?_ ?_))
                      exact congrArg (fun z => AV.fz .bool z) hfx
                    apply merge
                    · intro hc
                      (repeat' (first | exact trivial | refine And.intro ?_ ?_ | (intro hb; try simp at hb) | omega | exact rfl | refine aRegion_auto (by decide +kernel) ?_ | fail))
                      refine acall_conv [.keep, .keep, .dat SpT] _ _ _ rfl trivial (acall_frame0 rfl (isNode_any _ a k x hka (by omega) _ ?_))
                      rw [hN1]
                      cases N1 with
                      | true =>
                        (repeat' (first | exact trivial | refine And.intro ?_ ?_ | (intro hb; try simp at hb) | omega | exact rfl | refine aRegion_auto (by decide +kernel) ?_ | fail))
                        refine acall_conv [.keep, .keep, .dat SpT] _ _ _ rfl trivial (acall_frame0 rfl (isNode_any _ b n x hnb (by omega) _ ?_))
                        rw [hN2]
                        (repeat' (first | exact trivial | refine And.intro ?_ ?_ | (intro hb; try simp at hb) | omega | exact rfl | refine aRegion_auto (by decide +kernel) ?_ | fail))
                        refine ⟨[(0, .fptr MpT m), (3, .fz int i), (4, .fz (.list SpT) a), (5, .fz int k), (6, .fz int j), (7, .fz (.list SpT) b), (8, .fz int n), (12, .fz .bool f), (13, .fz .bool g)], [], Ent.ren [] rfl trivial ?_, hc.out⟩
                        · (repeat' (first | exact trivial | exact rfl | refine And.intro ?_ ?_))
                          exact congrArg (fun z => AV.fz .bool z) hgg
                      | false =>
                        (repeat' (first | exact trivial | refine And.intro ?_ ?_ | (intro hb; try simp at hb) | omega | exact rfl | refine aRegion_auto (by decide +kernel) ?_ | fail))
                        refine ⟨[(0, .fptr MpT m), (3, .fz int i), (4, .fz (.list SpT) a), (5, .fz int k), (6, .fz int j), (7, .fz (.list SpT) b), (8, .fz int n), (12, .fz .bool f), (13, .fz .bool g)], [], Ent.ren [] rfl trivial ?_, hc.out⟩
                        · (repeat' (first | exact trivial | exact rfl | refine And.intro ?_ ?_))
                          exact congrArg (fun z => AV.fz .bool z) hgg
                    clear hgg hf hfx
                    cases f <;> cases g
                    · have hn0 := hno hoR
                      (repeat' (first | exact trivial | refine And.intro ?_ ?_ | (intro hb; try simp at hb) | omega | exact rfl | refine aRegion_auto (by decide +kernel) ?_ | refine ⟨_, _, REnt.drop ⟨rfl, rfl⟩, ?_⟩ | fail))
                      exact hn0
                    all_goals
                      have hgo2 := hgo hoR
                      (repeat' (first | exact trivial | refine And.intro ?_ ?_ | (intro hb; try simp at hb) | omega | exact rfl | refine aRegion_auto (by decide +kernel) ?_ | fail))
                      refine ⟨n + 1, ⟨by show n + 1 + 1 ≤ b.length; omega, hgo2⟩, by show b.length - (n + 1) < b.length - n; omega, Ent.sub rfl ?_⟩
                      · (repeat' (first | exact trivial | exact rfl | refine And.intro ?_ ?_))
        · have hall := hbrk fun q hq _ hp => by
            obtain ⟨_, hp2⟩ := hp
            rw [hb0] at hp2
            omega
          (repeat' (first | exact trivial | refine And.intro ?_ ?_ | (intro hb; try simp at hb) | omega | exact rfl | refine aRegion_auto (by decide +kernel) ?_ | fail))
          refine ⟨j + 1, ⟨by show j + 1 ≤ i + 1; omega, hall⟩, by show i + 1 - (j + 1) < i + 1 - j; omega, Ent.sub rfl ?_⟩
          · (repeat' (first | exact trivial | exact rfl | refine And.intro ?_ ?_))
      · have hji2 : j = i + 1 := by omega
        (repeat' (first | exact trivial | refine And.intro ?_ ?_ | (intro hb; try simp at hb) | omega | exact rfl | refine aRegion_auto (by decide +kernel) ?_ | fail))
        refine ⟨k + 1, ⟨by show k + 1 + 1 ≤ a.length; omega, fun q p n hq => ?_⟩, by show a.length - (k + 1) < a.length - k; omega, Ent.sub rfl ?_⟩
        · have hq : q < k + 1 := hq
          by_cases c : q = k
          · subst c
            by_cases c2 : p < j
            · exact h3 p n c2
            · intro _ _ h; omega
          · exact h2 q p n (by omega)
        · (repeat' (first | exact trivial | exact rfl | refine And.intro ?_ ?_))
    · have hall : ∀ q p n, Ok i q p n := fun q p n => by
        by_cases c : q < k
        · exact h2 q p n c
        · intro hp
          obtain ⟨_, hp2⟩ := hp
          rw [ha] at hp2
          omega
      (repeat' (first | exact trivial | refine And.intro ?_ ?_ | (intro hb; try simp at hb) | omega | exact rfl | refine aRegion_auto (by decide +kernel) ?_ | fail))
      refine ⟨i + 1, ⟨by show i + 1 ≤ m.length; omega, fun p q j n hp => ?_⟩, by show m.length - (i + 1) < m.length - i; omega, Ent.sub rfl ?_⟩
      · have hp : p < i + 1 := hp
        by_cases c : p = i
        · rw [c]; exact hall q j n
        · exact h1 p q j n (by omega)
      · (repeat' (first | exact trivial | exact rfl | refine And.intro ?_ ?_))
  · obtain rfl : i = m.length := by omega
    have hKt := hK true ⟨fun _ p k j n hp hn ho => h1 p k j n hp.1 hp hn ho, fun _ => rfl⟩
    (repeat' (first | exact trivial | refine And.intro ?_ ?_ | (intro hb; try simp at hb) | omega | exact rfl | refine aRegion_auto (by decide +kernel) ?_ | refine ⟨_, _, REnt.drop ⟨rfl, rfl⟩, ?_⟩ | fail))
    exact hKt
end Go.Proofs.YtcfalmdfohphoaaDoor
/-
  Which maps are right, told by the document.
-/
namespace Go.Proofs.YtcfalmdfohphoaaDoor
open Go Go.Ab
set_option maxRecDepth 100000
set_option maxHeartbeats 4000000 in
theorem mapError_any (G : List (Nat × Value)) (m : Shp.Arcs) (hl : m.length ≤ 1000000000000000) (hlen : ∀ i, i < m.length → (Shp.arc m i).length ≤ 8796093022208) (K : AV → List AO → Prop) (hK : K (.fz int (Shp.vE ngB m : Nat)) []) : ACall Tryd.prog G 9 [.fptr MpT m] [] K := by
  have hat : ∀ i : Nat, List.getD m (Int.toNat (i : Int)) SpT.list.dft = Shp.arc m i := fun i => rfl
  refine acall_mk (E := envAt G 108 0) (envOk _ _ _) Tryd.func9 rfl rfl rfl rfl rfl ?_
  (repeat' (first | exact trivial | refine And.intro ?_ ?_ | (intro hb; try simp at hb) | omega | exact rfl | refine aRegion_auto (by decide +kernel) ?_ | fail))
  refine ⟨Nat, fun i => ⟨[(0, .fptr MpT m), (3, .fz int (wr (Shp.tot m i))), (4, .fz int i), (1000003, .unk)], []⟩, fun i => i ≤ m.length, fun i => m.length - i, 0, Nat.zero_le _, Ent.sub rfl ?_, ?_⟩
  · (repeat' (first | exact trivial | exact rfl | refine And.intro ?_ ?_))
  intro i hi
  have hi : i ≤ m.length := hi
  have htf := Shp.tot_full hi
  obtain ⟨n, hn⟩ : ∃ n, Shp.tot m i = n := ⟨_, rfl⟩
  show awp _ _ _ ⟨[(0, .fptr MpT m), (3, .fz int (wr (Shp.tot m i))), (4, .fz int i), (1000003, .unk)], []⟩
  rw [hn] at htf ⊢
  by_cases hil : i < m.length
  · obtain ⟨a, ha⟩ : ∃ a, Shp.arc m i = a := ⟨_, rfl⟩
    have hg := hat i
    have hal := hlen i hil
    have hnx := Shp.tot_next hil
    rw [ha] at hg hal hnx
    rw [hn] at hnx
    (repeat' (first | exact trivial | refine And.intro ?_ ?_ | (intro hb; try simp at hb) | omega | exact rfl | refine aRegion_auto (by decide +kernel) ?_ | fail))
    rw [hg]
    (repeat' (first | exact trivial | refine And.intro ?_ ?_ | (intro hb; try simp at hb) | omega | exact rfl | refine aRegion_auto (by decide +kernel) ?_ | fail))
    refine aact_addW (a := wr n) (b := (a.length : Int)) rfl rfl ?_
    rw [wr_add, ← hnx]
    (repeat' (first | exact trivial | refine And.intro ?_ ?_ | (intro hb; try simp at hb) | omega | exact rfl | refine aRegion_auto (by decide +kernel) ?_ | fail))
    refine aact_addW (a := (i : Int)) (b := 1) rfl rfl ?_
    rw [show IntKind.i64.wrap ((i : Int) + 1) = (i : Int) + 1 from I64.wrap (by unfold I64; omega)]
    (repeat' (first | exact trivial | exact fun h => h | refine And.intro ?_ ?_ | (intro hb; try simp at hb) | omega | exact rfl | exact Nat.le_refl _ | (show _ + 1 ≤ 4294967296; omega) | (show _ + 1 ≤ 5864062014634; omega) | (dsimp only; omega) | (show (_ : Int) ≤ (_ : Int); omega) | (show _ < List.length _; simp only [List.length_set, List.length_append, List.length_take]; omega) | (show wantB _ _ = true; simp <;> omega) | (show (_ : Bool) = _; simp_all; done) | (exfalso; omega) | refine aRegion_auto (by decide +kernel) ?_ | fail))
    refine ⟨i + 1, by show i + 1 ≤ m.length; omega, by show m.length - (i + 1) < m.length - i; omega, Ent.sub rfl ?_⟩
    · (repeat' (first | exact trivial | exact rfl | refine And.intro ?_ ?_))
  · obtain rfl : i = m.length := by omega
    by_cases hB : 60 < m.length ∨ 4000 < Shp.tot m m.length
    · have e := Shp.vE_bound (g := ngB) hB
      rw [e] at hK
      by_cases h60 : 60 < m.length
      · (repeat' (first | exact trivial | exact fun h => h | refine And.intro ?_ ?_ | (intro hb; try simp at hb) | omega | exact rfl | exact Nat.le_refl _ | (show _ + 1 ≤ 4294967296; omega) | (show _ + 1 ≤ 5864062014634; omega) | (dsimp only; omega) | (show (_ : Int) ≤ (_ : Int); omega) | (show _ < List.length _; simp only [List.length_set, List.length_append, List.length_take]; omega) | (show wantB _ _ = true; simp <;> omega) | (show (_ : Bool) = _; simp_all; done) | (exfalso; omega) | refine aRegion_auto (by decide +kernel) ?_ | refine ⟨_, _, REnt.drop ⟨rfl, rfl⟩, ?_⟩ | fail))
        exact hK
      · have hs := Shp.tot_wr hlen (by omega)
        rw [hn] at hB hs
        have hB := hB.resolve_left h60
        rw [hs]
        (repeat' (first | exact trivial | exact fun h => h | refine And.intro ?_ ?_ | (intro hb; try simp at hb) | omega | exact rfl | exact Nat.le_refl _ | (show _ + 1 ≤ 4294967296; omega) | (show _ + 1 ≤ 5864062014634; omega) | (dsimp only; omega) | (show (_ : Int) ≤ (_ : Int); omega) | (show _ < List.length _; simp only [List.length_set, List.length_append, List.length_take]; omega) | (show wantB _ _ = true; simp <;> omega) | (show (_ : Bool) = _; simp_all; done) | (exfalso; omega) | refine aRegion_auto (by decide +kernel) ?_ | refine ⟨_, _, REnt.drop ⟨rfl, rfl⟩, ?_⟩ | fail))
        exact hK
    · have hfew : m.length ≤ 60 := by omega
      have htt : Shp.tot m m.length ≤ 4000 := by omega
      have hl4 : ∀ i, i < m.length → (Shp.arc m i).length ≤ 4000 := fun i hi => by have := Shp.len_tot hi; omega
      have hs := Shp.tot_wr hlen (by omega)
      rw [hn] at hs htt
      rw [hs]
      (repeat' (first | exact trivial | exact fun h => h | refine And.intro ?_ ?_ | (intro hb; try simp at hb) | omega | exact rfl | exact Nat.le_refl _ | (show _ + 1 ≤ 4294967296; omega) | (show _ + 1 ≤ 5864062014634; omega) | (dsimp only; omega) | (show (_ : Int) ≤ (_ : Int); omega) | (show _ < List.length _; simp only [List.length_set, List.length_append, List.length_take]; omega) | (show wantB _ _ = true; simp <;> omega) | (show (_ : Bool) = _; simp_all; done) | (exfalso; omega) | refine aRegion_auto (by decide +kernel) ?_ | fail))
      rw [← hn] at htt
      refine ⟨Nat, fun i => ⟨[(0, .fptr MpT m), (5, .fz int i)], []⟩, fun i => i ≤ m.length ∧ ∀ j, j < i → Shp.badA ngB (Shp.arc m j) = false, fun i => m.length - i, 0, ⟨Nat.zero_le _, fun j h => absurd h (Nat.not_lt_zero _)⟩, Ent.sub rfl ?_, ?_⟩
      · (repeat' (first | exact trivial | exact rfl | refine And.intro ?_ ?_))
      intro i ⟨hi, hbad⟩
      have hi : i ≤ m.length := hi
      have hbad : ∀ j, j < i → Shp.badA ngB (Shp.arc m j) = false := hbad
      show awp _ _ _ ⟨[(0, .fptr MpT m), (5, .fz int i)], []⟩
      by_cases hil : i < m.length
      · obtain ⟨a, ha⟩ : ∃ a, Shp.arc m i = a := ⟨_, rfl⟩
        have hg := hat i
        have hal := hl4 i hil
        rw [ha] at hg hal
        have hgo : Shp.badA ngB a = false → ∀ j, j < i + 1 → Shp.badA ngB (Shp.arc m j) = false := fun h j hj => by
          by_cases c : j = i
          · rw [c, ha]; exact h
          · exact hbad j (by omega)
        have hno : (Shp.badA ngB a = false → False) → K (.fz int 3) [] := fun h => by
          rw [Shp.vE_shape hB ⟨i, hil, by rw [ha]; cases c : Shp.badA ngB a with | true => rfl | false => exact (h c).elim⟩] at hK
          exact hK
        have hiff := Shp.badA_iff ngB a
        (repeat' (first | exact trivial | exact fun h => h | refine And.intro ?_ ?_ | (intro hb; try simp at hb) | omega | exact rfl | exact Nat.le_refl _ | (show _ + 1 ≤ 4294967296; omega) | (show _ + 1 ≤ 5864062014634; omega) | (dsimp only; omega) | (show (_ : Int) ≤ (_ : Int); omega) | (show _ < List.length _; simp only [List.length_set, List.length_append, List.length_take]; omega) | (show wantB _ _ = true; simp <;> omega) | (show (_ : Bool) = _; simp_all; done) | (exfalso; omega) | fail))
        rw [hg]
        (repeat' (first | exact trivial | exact fun h => h | refine And.intro ?_ ?_ | (intro hb; try simp at hb) | omega | exact rfl | exact Nat.le_refl _ | (show _ + 1 ≤ 4294967296; omega) | (show _ + 1 ≤ 5864062014634; omega) | (dsimp only; omega) | (show (_ : Int) ≤ (_ : Int); omega) | (show _ < List.length _; simp only [List.length_set, List.length_append, List.length_take]; omega) | (show wantB _ _ = true; simp <;> omega) | (show (_ : Bool) = _; simp_all; done) | (exfalso; omega) | fail))
        by_cases h2 : a.length < 2
        · have hK3 := hno fun h => by have := (hiff.1 h).1; omega
          (repeat' (first | exact trivial | exact fun h => h | refine And.intro ?_ ?_ | (intro hb; try simp at hb) | omega | exact rfl | exact Nat.le_refl _ | (show _ + 1 ≤ 4294967296; omega) | (show _ + 1 ≤ 5864062014634; omega) | (dsimp only; omega) | (show (_ : Int) ≤ (_ : Int); omega) | (show _ < List.length _; simp only [List.length_set, List.length_append, List.length_take]; omega) | (show wantB _ _ = true; simp <;> omega) | (show (_ : Bool) = _; simp_all; done) | (exfalso; omega) | refine aRegion_auto (by decide +kernel) ?_ | refine ⟨_, _, REnt.drop ⟨rfl, rfl⟩, ?_⟩ | fail))
          all_goals first | exact hK3 | trace_state
        · have hne : a ≠ [] := fun e => h2 (by rw [e]; exact (by decide : 0 < 2))
          have hq : eqL [(a[0]?.getD SpT.dft).1, (a[0]?.getD SpT.dft).2] [(a[a.length - 1]?.getD SpT.dft).1, (a[a.length - 1]?.getD SpT.dft).2] = decide (Shp.at_ a 0 = Shp.at_ a (a.length - 1)) := by
            rw [at_q, at_q]
            exact eqS _ _
          (repeat' (first | exact trivial | exact fun h => h | refine And.intro ?_ ?_ | (intro hb; try simp at hb) | omega | exact rfl | exact Nat.le_refl _ | (show _ + 1 ≤ 4294967296; omega) | (show _ + 1 ≤ 5864062014634; omega) | (dsimp only; omega) | (show (_ : Int) ≤ (_ : Int); omega) | (show _ < List.length _; simp only [List.length_set, List.length_append, List.length_take]; omega) | (show wantB _ _ = true; simp <;> omega) | (show (_ : Bool) = _; simp_all; done) | (exfalso; omega) | refine aRegion_auto (by decide +kernel) ?_ | fail))
          · have hK3 := hno fun h => by
              rcases hb with hb | ⟨hb, h4⟩
              · omega
              · rw [hq] at hb
                exact (hiff.1 h).2.2.1 ⟨of_decide_eq_true hb, by omega⟩
            (repeat' (first | exact trivial | exact fun h => h | refine And.intro ?_ ?_ | (intro hb; try simp at hb) | omega | exact rfl | exact Nat.le_refl _ | (show _ + 1 ≤ 4294967296; omega) | (show _ + 1 ≤ 5864062014634; omega) | (dsimp only; omega) | (show (_ : Int) ≤ (_ : Int); omega) | (show _ < List.length _; simp only [List.length_set, List.length_append, List.length_take]; omega) | (show wantB _ _ = true; simp <;> omega) | (show (_ : Bool) = _; simp_all; done) | (exfalso; omega) | refine aRegion_auto (by decide +kernel) ?_ | refine ⟨_, _, REnt.drop ⟨rfl, rfl⟩, ?_⟩ | fail))
            exact hK3
          · have hcl : ¬ (Shp.at_ a 0 = Shp.at_ a (a.length - 1) ∧ a.length < 4) := fun ⟨e1, e2⟩ => by
              rw [hq] at hb
              have := hb.2 (decide_eq_true e1)
              omega
            clear hb
            (repeat' (first | exact trivial | exact fun h => h | refine And.intro ?_ ?_ | (intro hb; try simp at hb) | omega | exact rfl | exact Nat.le_refl _ | (show _ + 1 ≤ 4294967296; omega) | (show _ + 1 ≤ 5864062014634; omega) | (dsimp only; omega) | (show (_ : Int) ≤ (_ : Int); omega) | (show _ < List.length _; simp only [List.length_set, List.length_append, List.length_take]; omega) | (show wantB _ _ = true; simp <;> omega) | (show (_ : Bool) = _; simp_all; done) | (exfalso; omega) | refine aRegion_auto (by decide +kernel) ?_ | fail))
            refine ⟨Nat, fun k => ⟨[(0, .fptr MpT m), (5, .fz int i), (6, .fz (.list SpT) a), (7, .fz int k)], []⟩, fun k => k ≤ a.length ∧ (∀ t, t < k → plB (Shp.at_ a t) = true) ∧ ∀ t, t + 1 < k → Shp.at_ a t ≠ Shp.at_ a (t + 1), fun k => a.length - k, 0, ⟨Nat.zero_le _, fun t h => absurd h (Nat.not_lt_zero _), fun t h => absurd h (Nat.not_lt_zero _)⟩, Ent.sub rfl ?_, ?_⟩
            · (repeat' (first | exact trivial | exact rfl | refine And.intro ?_ ?_))
            intro k ⟨hk, hp, hs⟩
            have hk : k ≤ a.length := hk
            have hp : ∀ t, t < k → plB (Shp.at_ a t) = true := hp
            have hs : ∀ t, t + 1 < k → Shp.at_ a t ≠ Shp.at_ a (t + 1) := hs
            show awp _ _ _ ⟨[(0, .fptr MpT m), (5, .fz int i), (6, .fz (.list SpT) a), (7, .fz int k)], []⟩
            by_cases hka : k < a.length
            · obtain ⟨x, hx⟩ : ∃ x, Shp.at_ a k = x := ⟨_, rfl⟩
              have hgx : List.getD a (Int.toNat (k : Int)) SpT.dft = x := hx
              obtain ⟨ok, hok⟩ : ∃ ok, plB x = ok := ⟨_, rfl⟩
              (repeat' (first | exact trivial | exact fun h => h | refine And.intro ?_ ?_ | (intro hb; try simp at hb) | omega | exact rfl | exact Nat.le_refl _ | (show _ + 1 ≤ 4294967296; omega) | (show _ + 1 ≤ 5864062014634; omega) | (dsimp only; omega) | (show (_ : Int) ≤ (_ : Int); omega) | (show _ < List.length _; simp only [List.length_set, List.length_append, List.length_take]; omega) | (show wantB _ _ = true; simp <;> omega) | (show (_ : Bool) = _; simp_all; done) | (exfalso; omega) | refine aRegion_auto (by decide +kernel) ?_ | fail))
              rw [hgx]
              refine acall_frame0 rfl (isPlace_any _ x _ ?_)
              rw [hok]
              cases ok with
              | false =>
                have hK3 := hno fun h => by
                  have := (hiff.1 h).2.1 k hka
                  unfold ngB at this
                  rw [hx, hok] at this; cases this
                (repeat' (first | exact trivial | exact fun h => h | refine And.intro ?_ ?_ | (intro hb; try simp at hb) | omega | exact rfl | exact Nat.le_refl _ | (show _ + 1 ≤ 4294967296; omega) | (show _ + 1 ≤ 5864062014634; omega) | (dsimp only; omega) | (show (_ : Int) ≤ (_ : Int); omega) | (show _ < List.length _; simp only [List.length_set, List.length_append, List.length_take]; omega) | (show wantB _ _ = true; simp <;> omega) | (show (_ : Bool) = _; simp_all; done) | (exfalso; omega) | refine aRegion_auto (by decide +kernel) ?_ | refine ⟨_, _, REnt.drop ⟨rfl, rfl⟩, ?_⟩ | fail))
                exact hK3
              | true =>
                by_cases hk0 : 0 < k
                · have hq2 : eqL [(a[k]?.getD SpT.dft).1, (a[k]?.getD SpT.dft).2] [(a[k - 1]?.getD SpT.dft).1, (a[k - 1]?.getD SpT.dft).2] = decide (Shp.at_ a k = Shp.at_ a (k - 1)) := by
                    rw [at_q, at_q]
                    exact eqS _ _
                  (repeat' (first | exact trivial | exact fun h => h | refine And.intro ?_ ?_ | (intro hb; try simp at hb) | omega | exact rfl | exact Nat.le_refl _ | (show _ + 1 ≤ 4294967296; omega) | (show _ + 1 ≤ 5864062014634; omega) | (dsimp only; omega) | (show (_ : Int) ≤ (_ : Int); omega) | (show _ < List.length _; simp only [List.length_set, List.length_append, List.length_take]; omega) | (show wantB _ _ = true; simp <;> omega) | (show (_ : Bool) = _; simp_all; done) | (exfalso; omega) | refine aRegion_auto (by decide +kernel) ?_ | fail))
                  · have hK3 := hno fun h => by
                      have h3 := hb.2
                      rw [hq2] at h3
                      have h4 := (hiff.1 h).2.2.2 (k - 1) (by omega)
                      rw [show k - 1 + 1 = k by omega] at h4
                      exact h4 (of_decide_eq_true h3).symm
                    (repeat' (first | exact trivial | exact fun h => h | refine And.intro ?_ ?_ | (intro hb; try simp at hb) | omega | exact rfl | exact Nat.le_refl _ | (show _ + 1 ≤ 4294967296; omega) | (show _ + 1 ≤ 5864062014634; omega) | (dsimp only; omega) | (show (_ : Int) ≤ (_ : Int); omega) | (show _ < List.length _; simp only [List.length_set, List.length_append, List.length_take]; omega) | (show wantB _ _ = true; simp <;> omega) | (show (_ : Bool) = _; simp_all; done) | (exfalso; omega) | refine aRegion_auto (by decide +kernel) ?_ | refine ⟨_, _, REnt.drop ⟨rfl, rfl⟩, ?_⟩ | fail))
                    exact hK3
                  · have h3 := hb hk0
                    rw [hq2] at h3
                    have h4 := of_decide_eq_false h3
                    clear hb
                    (repeat' (first | exact trivial | exact fun h => h | refine And.intro ?_ ?_ | (intro hb; try simp at hb) | omega | exact rfl | exact Nat.le_refl _ | (show _ + 1 ≤ 4294967296; omega) | (show _ + 1 ≤ 5864062014634; omega) | (dsimp only; omega) | (show (_ : Int) ≤ (_ : Int); omega) | (show _ < List.length _; simp only [List.length_set, List.length_append, List.length_take]; omega) | (show wantB _ _ = true; simp <;> omega) | (show (_ : Bool) = _; simp_all; done) | (exfalso; omega) | refine aRegion_auto (by decide +kernel) ?_ | fail))
                    refine ⟨k + 1, ⟨by show k + 1 ≤ a.length; omega, fun t h => ?_, fun t h => ?_⟩, by show a.length - (k + 1) < a.length - k; omega, Ent.sub rfl ?_⟩
                    · have h : t < k + 1 := h
                      by_cases c : t = k
                      · rw [c, hx]; exact hok
                      · exact hp t (by omega)
                    · have h : t + 1 < k + 1 := h
                      by_cases c : t + 1 = k
                      · have e : t = k - 1 := by omega
                        rw [c, e]
                        exact fun h => h4 h.symm
                      · exact hs t (by omega)
                    · (repeat' (first | exact trivial | exact rfl | refine And.intro ?_ ?_))
                · obtain rfl : k = 0 := by omega
                  (repeat' (first | exact trivial | refine And.intro ?_ ?_ | (intro hb; try simp at hb) | omega | exact rfl | refine aRegion_auto (by decide +kernel) ?_ | fail))
                  refine ⟨0 + 1, ⟨by show 0 + 1 ≤ a.length; omega, fun t h => ?_, fun t h => ?_⟩, by show a.length - (0 + 1) < a.length - 0; omega, Ent.sub rfl ?_⟩
                  · have h : t < 0 + 1 := h
                    have e : t = 0 := by omega
                    rw [e, hx]; exact hok
                  · have h : t + 1 < 0 + 1 := h
                    omega
                  · (repeat' (first | exact trivial | exact rfl | refine And.intro ?_ ?_))
            · have hgood := hgo (hiff.2 ⟨by omega, fun t ht => by unfold ngB; rw [hp t (by omega)]; rfl, hcl, fun t ht => hs t (by omega)⟩)
              (repeat' (first | exact trivial | refine And.intro ?_ ?_ | (intro hb; try simp at hb) | omega | exact rfl | refine aRegion_auto (by decide +kernel) ?_ | fail))
              refine ⟨i + 1, ⟨by show i + 1 ≤ m.length; omega, hgood⟩, by show m.length - (i + 1) < m.length - i; omega, Ent.sub rfl ?_⟩
              · (repeat' (first | exact trivial | exact rfl | refine And.intro ?_ ?_))
      · obtain rfl : i = m.length := by omega
        have B := MB_of hfew htt hbad
        have hap := Shp.apart_iff (m := m) (fun i k ⟨h1, h2⟩ => ((Shp.badA_iff _ _).1 (hbad i h1)).2.2.2 k h2) B.two
        (repeat' (first | exact trivial | refine And.intro ?_ ?_ | (intro hb; try simp at hb) | omega | exact rfl | refine aRegion_auto (by decide +kernel) ?_ | fail))
        refine acall_frame0 rfl (apart_any _ m B _ fun b hb0 => ?_)
        cases b with
        | true =>
          rw [Shp.vE_ok hB hbad (hap.1 (hb0.1 rfl))] at hK
          (repeat' (first | exact trivial | refine And.intro ?_ ?_ | (intro hb; try simp at hb) | omega | exact rfl | refine aRegion_auto (by decide +kernel) ?_ | refine ⟨_, _, REnt.drop ⟨rfl, rfl⟩, ?_⟩ | fail))
          exact hK
        | false =>
          rw [Shp.vE_order hB hbad fun h => by have := hb0.2 (hap.2 h); cases this] at hK
          (repeat' (first | exact trivial | refine And.intro ?_ ?_ | (intro hb; try simp at hb) | omega | exact rfl | refine aRegion_auto (by decide +kernel) ?_ | refine ⟨_, _, REnt.drop ⟨rfl, rfl⟩, ?_⟩ | fail))
          exact hK
end Go.Proofs.YtcfalmdfohphoaaDoor
