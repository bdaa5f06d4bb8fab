/-
  A range over slices.Backward of ints: the rule.
-/
import Derived.Test.YtepkknjncpbahaaDoorM6
import Derived.RangeFuncBox
import Derived.RangeFuncLeaves
import Derived.Shelf.Abstract
import Derived.WalkKit
import Derived.OwnWalkIn
import Derived.TacticsInMore
import Derived.LoopNIn
import Derived.LoopIn
import Derived.Test.YtepkknjncpbahaaDoorProg
namespace Go.Ab
open Go Go.RowKit Go.Shelf
theorem le_trans {n m : Nat} {c c' c'' : Cx} (h : Le n c c') (h' : Le m c' c'') (hn : n ≤ m) : Le n c c'' := by
  refine ⟨fun b hI hb => ?_, fun t ht => (h.tok t ht).trans (h'.tok t (by omega)), by have := h'.len; omega⟩
  obtain ⟨k1, k2⟩ := h.I b hI hb
  obtain ⟨k3, k4⟩ := h'.I b k1 (heap_lt hb k2)
  exact ⟨k3, k4.trans k2⟩
theorem Le.lower {n m : Nat} {c c' : Cx} (h : Le n c c') (hm : m ≤ n) : Le m c c' := ⟨h.I, fun t ht => h.tok t (by omega), by have := h.len; omega⟩
theorem box_tok {c c' : Cx} {t : Nat} (h : TokLe c c' t) {vs vs' : List AV} (h1 : c.A[t]? = some (.box vs)) (h2 : c'.A[t]? = some (.box vs')) : c'.ρ t = c.ρ t := by
  unfold TokLe at h
  rw [h1, h2] at h
  rcases h with ⟨_, h⟩ | ⟨e, xs, h⟩ | h
  · first | exact h | exact h.symm
  · cases h
  · cases h
theorem rf_wp {E : Env} (ok : EnvOk E) {f : Nat} (hback : BackOk E.P f) (hent : ∀ args w, (callFunc f args).run E.P w = .ok (.enter f args) w) {g : Operand} {p0 p1 : Nat} {assign body : Code} (nda : ndC assign = true) (ndb : ndC body = true)
    {c0 : Cx} (hG : c0.G = E.G) {T : List (Nat × AV)} {A : List AO} {tok : Nat} {l : List Int} (hp0 : p0 < E.N) (hp1 : p1 < E.N)
    (hg : ev T g = .fn f [.ptr tok 0]) (h0 : 0 < l.length) (h8 : l.length * 8 ≤ 140737488351232)
    (S : Nat → List AO) (hS0 : S 0 = A) (hSt : ∀ k, k ≤ l.length → (S k)[tok]? = some (.box [.fz (.list (.int .i64)) l])) (hSl : ∀ k, k ≤ l.length → (S k).length = A.length)
    (hround : ∀ k j, k + j + 1 = l.length → awp ⟨E.P, E.D, E.G, E.N, A.length, E.cuts⟩ assign (thenQ (awp ⟨E.P, E.D, E.G, E.N, A.length, E.cuts⟩ body (rndQ A.length (S (k + 1)))) fun _ _ => False) ⟨(p1, .fz (.int .i64) (l[j]?.getD 0)) :: (p0, .fz (.int .i64) (j : Int)) :: T, S k⟩)
    {a : Act} {w : World} (hs : Sim E.n0 c0 E.N ⟨T, A⟩ a w) {QQ : Exit → Act → World → Prop}
    (hQQ : ∀ (D : Nat) (c1 : Cx), Mid E.n0 c0 c1 D → HR c1 → c1.A = S l.length → TR c1 T a.tmps → a.tmps.size = E.N → QQ .normal (wd a [{ target := .collected D, args := #[] }]) c1.w) :
    (Code.rangeFunc g #[p0, p1] assign body).wpIn (FR none) 2 E.P QQ a w := by
  obtain ⟨c, rfl, hA, H, hT, hE, hd, hN⟩ := hs
  have hA : c.A = A := hA
  have hT : TR c T a.tmps := hT
  have ok1 : EnvOk ⟨E.P, E.D, E.G, E.N, A.length, E.cuts⟩ := ⟨ok.tab, ok.mix⟩
  -- the iterator's value
  have hv := hT.ev (a := a) g
  rw [hg] at hv
  unfold Rel at hv
  obtain ⟨vs, hgv, hvs⟩ := hv
  unfold RelL at hvs
  obtain ⟨v, r, rfl, hv, hr⟩ := hvs
  unfold RelL at hr
  subst hr
  have hAt : c.A[tok]? = some (.box [.fz (.list (.int .i64)) l]) := by rw [hA, ← hS0]; exact hSt 0 (Nat.zero_le _)
  unfold Rel at hv
  rw [hAt] at hv
  obtain ⟨B, hB, rfl⟩ := hv
  have hgv : a.eval g = .func (.func f) #[] #[.pointer (some ⟨B, 0, none⟩)] := hgv
  refine wpIn_rangeFunc fun fn _ => ?_
  rw [show (FR none).round = none from rfl]
  obtain ⟨D, hD⟩ : ∃ D, D = c.w.heap.size := ⟨_, rfl⟩
  obtain ⟨rec, hrec⟩ : ∃ rec : LoopState → Loop, rec = fun st => { state := st, pending := none, fn, tmps := a.tmps, params := #[p0, p1], assign, body, defers := c.w.heap.size } := ⟨_, rfl⟩
  obtain ⟨W1, hW1⟩ : ∃ W1, (c.w.alloc (.deferred (some []))).alloc (.loop (rec .ready)) = W1 := ⟨_, rfl⟩
  have hsz : W1.heap.size = D + 2 := by rw [← hW1, World.size_alloc, World.size_alloc, hD]
  have hold : ∀ b, b < c.w.heap.size → W1.heap[b]? = c.w.heap[b]? := fun b hb => by
    rw [← hW1]; exact (heap_alloc_old _ _ (by rw [World.size_alloc]; omega)).trans (heap_alloc_old _ _ hb)
  have hL1 : W1.heap[D + 1]? = some (.loop (rec .ready)) := by
    rw [← hW1, hD]; have := World.alloc_heap_new (c.w.alloc (.deferred (some []))) (.loop (rec .ready)); rwa [World.size_alloc] at this
  have hD1 : W1.heap[D]? = some (.deferred (some [])) := by
    rw [← hW1, hD]; exact (heap_alloc_old _ _ (by rw [World.size_alloc]; omega)).trans (World.alloc_heap_new c.w _)
  let cD : Cx := { c with w := W1, X := fun b => c.X b ∨ b = D ∨ b = D + 1 }
  have tD : Turn c cD := by
    refine ⟨rfl, rfl, rfl, fun b hI hb => ⟨⟨fun hx => ?_, hI.2⟩, hold b hb⟩, fun t b hl hb => ?_, fun b hb => ?_⟩
    · rcases hx with hx | hx | hx
      · exact hI.1 hx
      · omega
      · omega
    · have hlt : b < c.w.heap.size := by
        obtain ⟨o, h1, h2⟩ := hl
        have := H.obj t o h1
        rw [hb] at this
        exact this.lt h2
      refine ⟨fun hx => ?_, hold b hlt⟩
      rcases hx with hx | hx | hx
      · exact H.far t b hl hb hx
      · omega
      · omega
    · show b < W1.heap.size
      rcases hb with hb | hb | hb
      · have := H.old b hb; omega
      · omega
      · omega
  have HD : HR cD := tD.hr H
  have TD : TR cD T a.tmps := hT.le tD.le
  have sD : WSame c.w W1 := by rw [← hW1]; exact ⟨rfl, rfl, rfl⟩
  have hlen : cD.A.length = A.length := congrArg List.length hA
  obtain ⟨J, hJ⟩ : ∃ J : Nat → World → Prop, J = fun k W => k ≤ l.length ∧ ∃ c1 : Cx, c1.w = W ∧ HR c1 ∧ c1.A = S k ∧ Le A.length cD c1 ∧ c1.X = cD.X ∧ c1.G = cD.G ∧ WSame cD.w c1.w ∧ (∀ b, cD.X b → b ≠ D + 1 → c1.w.heap[b]? = cD.w.heap[b]?) ∧ W.heap[D + 1]? = some (.loop (rec .ready)) := ⟨_, rfl⟩
  have hJ0 : J 0 W1 := by
    rw [hJ]
    exact ⟨Nat.zero_le _, cD, rfl, HD, hA.trans hS0.symm, ⟨fun _ h _ => ⟨h, rfl⟩, fun t h => TokLe.refl (by rw [hlen]; exact h), by rw [hlen]; exact Nat.le_refl _⟩, rfl, rfl, WSame.refl _, fun _ _ _ => rfl, hL1⟩
  refine ⟨D + 1, [{ target := .collected D, args := #[] }], W1, { target := .fn (.func f) #[.pointer (some ⟨B, 0, none⟩)], args := #[.func (.yield (D + 1)) #[] #[]] }, W1, f,
    #[.func (.yield (D + 1)) #[] #[]] ++ #[.pointer (some ⟨B, 0, none⟩)], W1, ?_, ?_, fun _ _ => trivial, ?_, fun h => (by cases h), ?_⟩
  · rw [← hW1, hrec, hD]; exact run_enterLoop_outer _ _ _ _ _
  · simp only [resolve, hgv]
    simp [go_sem]
  · simp [invoke, go_sem, hent]
  · refine CallsIn.mono (hback (2 - 1) (D + 1) B l.length l (by omega) h0 h8 J ?_ ?_ W1 hJ0) ?_
    · -- the slice is read
      intro k W hk
      rw [hJ] at hk
      obtain ⟨hkl, c1, rfl, H1, hA1, le1, _⟩ := hk
      have hAt1 : c1.A[tok]? = some (.box [.fz (.list (.int .i64)) l]) := by rw [hA1]; exact hSt k hkl
      have htl : tok < A.length := by rw [← hA]; exact get_lt hAt
      have hρ : c1.ρ tok = cD.ρ tok := box_tok (le1.tok tok htl) (show cD.A[tok]? = _ from hAt) hAt1
      obtain ⟨b, cs, et, k1, k2, k3⟩ := H1.obj tok _ hAt1
      unfold RelL at k3
      obtain ⟨v, r, rfl, k3, k4⟩ := k3
      unfold RelL at k4
      subst k4
      rw [hρ, show cD.ρ tok = some B from hB] at k1
      cases k1
      obtain ⟨b', off, cap, rfl, hcell⟩ := fz_ints h0 k3
      exact ⟨b', off, cap, by unfold World.cell?; simp [k2], hcell⟩
    · -- one round
      intro k j W hk hkj
      rw [hJ] at hk
      obtain ⟨hkl, c1, rfl, H1, hA1, le1, X1, G1, st1, far1, hl1⟩ := hk
      have T1 : TR c1 T a.tmps := TD.le (by rw [hlen]; exact le1)
      have hG1 : c1.G = E.G := G1.trans (hE.G.trans hG)
      have x1 : c1.X (D + 1) := by rw [X1]; exact .inr (.inr rfl)
      have hy := run_yield (P := E.P) (args := #[.int .i64 (j : Int), .int .i64 (l[j]?.getD 0)]) hl1 (by rw [hrec]; rfl)
      rw [hrec] at hy
      let a1 : Act := ((wd a []).put (some p0) (.int .i64 (j : Int))).put (some p1) (.int .i64 (l[j]?.getD 0))
      obtain ⟨t1, n1, _⟩ := put_tr (a := wd a []) (d := some p0) (v := .fz (.int .i64) (j : Int)) (u := .int .i64 (j : Int)) (N := E.N) T1 hN (by show Nat.blt p0 E.N = true; simpa using hp0) (by unfold Rel; exact ⟨_, rfl, rfl⟩)
      obtain ⟨t2, n2, _⟩ := put_tr (d := some p1) (v := .fz (.int .i64) (l[j]?.getD 0)) (u := .int .i64 (l[j]?.getD 0)) (N := E.N) t1 n1 (by show Nat.blt p1 E.N = true; simpa using hp1) (by unfold Rel; exact ⟨_, rfl, rfl⟩)
      refine ⟨fn, a1.tmps, assign, body, ?_, roundIn_of_wpIn trivial ?_⟩
      · show _ = Result.ok (Next.round (D + 1) fn ((a.tmps.setIfInBounds p0 _).setIfInBounds p1 _) assign body) c1.w
        simpa using hy
      have hsim : Sim A.length c1 E.N ⟨(p1, .fz (.int .i64) (l[j]?.getD 0)) :: (p0, .fz (.int .i64) (j : Int)) :: T, S k⟩ a1 c1.w := ⟨c1, rfl, hA1, H1, t2, ExtN.refl (by rw [hA1, hSl k hkl]; exact Nat.le_refl _), rfl, n2⟩
      refine wpIn_mono (awp_sound_in ok1 (some (D + 1)) _ c1 hG1 assign nda _ _ _ _ (hround k j hkj) hsim) fun e a' w' ⟨σ1, hq, hs1⟩ => ?_
      cases e with
      | normal =>
        obtain ⟨c2, rfl, hA2, H2, hT2, hE2, hd2, hN2⟩ := hs1
        have x2 : c2.X (D + 1) := by rw [hE2.X]; exact x1
        have hl2 : c2.w.heap[D + 1]? = some (.loop (rec .ready)) := (hE2.far _ x1).trans hl1
        refine ⟨_, run_beginRound hl2 (by rw [hrec]), ?_⟩
        obtain ⟨o2, ho2⟩ : ∃ o2, o2 = Obj.loop { rec .ready with state := .busy } := ⟨_, rfl⟩
        rw [← ho2]
        have t2' := turn_put H2 x2 o2
        have H2' := t2'.hr H2
        have hl2' : (c2.w.putObj (D + 1) o2).heap[D + 1]? = some o2 := World.putObj_heap_same (some_lt hl2)
        refine wpIn_mono (awp_sound_in ok1 (some (D + 1)) _ { c2 with w := c2.w.putObj (D + 1) o2 } (hE2.G.trans hG1) body ndb _ σ1 a' _ hq ⟨{ c2 with w := c2.w.putObj (D + 1) o2 }, rfl, hA2, H2', hT2.le t2'.le, ExtN.refl hE2.le.len, hd2, hN2⟩) fun e a3 w3 ⟨σ3, hq3, hs3⟩ => ?_
        cases e with
        | normal =>
          obtain ⟨c3, rfl, hA3, H3, hT3, hE3, hd3, hN3⟩ := hs3
          obtain ⟨_, hq3⟩ : ∃ _u : Unit, Ent A.length σ3 ⟨[], S (k + 1)⟩ := hq3
          obtain ⟨c4, hw4, hE4, H4, hA4, _⟩ := hq3 c3 H3 hA3 hE3.le.len _ hT3
          have hl3 : c3.w.heap[D + 1]? = some o2 := (hE3.far _ x2).trans hl2'
          rw [ho2] at hl3
          have hr3 := run_endRound (P := E.P) none hl3
          have e3 : ({ { rec .ready with state := .busy } with state := if (none : Option Code).isNone then .ready else .done, pending := none } : Loop) = rec .ready := by rw [hrec]; rfl
          rw [e3] at hr3
          refine ⟨_, _, hr3, rfl, ?_⟩
          have x3 : c3.X (D + 1) := by rw [hE3.X]; exact x2
          have x4 : c4.X (D + 1) := by rw [hE4.X]; exact x3
          have t4 := turn_put H4 x4 (.loop (rec .ready))
          rw [hJ, ← hw4]
          refine ⟨by omega, { c4 with w := c4.w.putObj (D + 1) (.loop (rec .ready)) }, rfl, t4.hr H4, hA4, ?_, ?_, ?_, ?_, ?_, ?_⟩
          · have l3 := le_trans hE4.le t4.le hE4.le.len
            have l2 := le_trans hE3.le l3 (Nat.le_refl _)
            have l1 := le_trans (t2'.le.lower hE2.le.len) l2 (Nat.le_refl _)
            exact le_trans le1 (le_trans hE2.le l1 (Nat.le_refl _)) (Nat.le_refl _)
          · exact hE4.X.trans (hE3.X.trans (hE2.X.trans X1))
          · exact hE4.G.trans (hE3.G.trans (hE2.G.trans G1))
          · exact st1.trans (hE2.st.trans ((same_put _ _ _).trans (hE3.st.trans (hE4.st.trans (same_put _ _ _)))))
          · intro b hb hne
            have y1 : c1.X b := by rw [X1]; exact hb
            have y2 : c2.X b := by rw [hE2.X]; exact y1
            have y3 : c3.X b := by rw [hE3.X]; exact y2
            refine (World.putObj_heap_other hne).trans ((hE4.far b y3).trans ((hE3.far b y2).trans ?_))
            exact (World.putObj_heap_other hne).trans ((hE2.far b y1).trans (far1 b hb hne))
          · exact World.putObj_heap_same (by rw [hw4]; exact some_lt hl3)
        | _ => exact hq3.elim
      | _ => exact hq.elim
    · -- behind the iterator
      rintro e W' ⟨⟨v, rfl⟩, hk⟩
      rw [hJ] at hk
      obtain ⟨hkl, c1, rfl, H1, hA1, le1, X1, G1, st1, far1, hl1⟩ := hk
      have x1 : c1.X (D + 1) := by rw [X1]; exact .inr (.inr rfl)
      have hr := run_endLoop (P := E.P) hl1 (by rw [hrec]; simp)
      have pend : (rec .ready).pending = none := by rw [hrec]
      rw [pend] at hr
      refine ⟨none, _, hr, ?_⟩
      show QQ .normal _ (c1.w.putObj (D + 1) (.loop { rec .ready with state := .exhausted, pending := none }))
      generalize Obj.loop { rec .ready with state := .exhausted, pending := none } = o1
      have t1 := turn_put H1 x1 o1
      have T1 : TR c1 T a.tmps := TD.le (by rw [hlen]; exact le1)
      have hl1' : A.length ≤ c1.A.length := le1.len
      have := hQQ D { c1 with w := c1.w.putObj (D + 1) o1 } ⟨?_, ?_, ?_, ?_, ?_, ?_, ?_, ?_, ?_⟩ (t1.hr H1) hA1 (T1.le t1.le) hN
      · unfold wd at this
        show QQ .normal { a with defers := [{ target := .collected D, args := #[] }] ++ a.defers } _
        rw [hd]; exact this
      · have l1 := le_trans le1 t1.le hl1'
        have l2 := le_trans tD.le l1 (Nat.le_of_eq (congrArg List.length hA))
        exact le_trans hE.le l2 hE.le.len
      · exact G1.trans hE.G
      · intro b hb
        show c1.X b
        rw [X1]; exact .inl (by rw [hE.X]; exact hb)
      · show c1.X D
        rw [X1]; exact .inr (.inl rfl)
      · exact (World.putObj_heap_other (by omega)).trans ((far1 D (.inr (.inl rfl)) (by omega)).trans hD1)
      · intro hx
        have := H.old D (by rw [hE.X]; exact hx)
        omega
      · intro b hI hb
        obtain ⟨k1, k2⟩ := hE.le.I b hI hb
        have := heap_lt hb k2
        omega
      · intro b hb
        have hb' : c.X b := by rw [hE.X]; exact hb
        have := H.old b hb'
        exact (World.putObj_heap_other (by omega)).trans ((far1 b (.inl hb') (by omega)).trans ((hold b this).trans (hE.far b hb)))
      · exact hE.st.trans (sD.trans (st1.trans (same_put _ _ _)))
end Go.Ab
/-
  Functions in which a range over slices.Backward stands.
-/
namespace Go.Ab
open Go Go.RowKit Go.Shelf
def hasRF : Code → Bool
  | .rangeFunc _ _ _ _ => true
  | .seq x y => hasRF x || hasRF y
  | .block _ c => hasRF c
  | _ => false
/-- the loop stands where it may, and what follows it is calm -/
def okRF : Code → Bool
  | .rangeFunc _ ps x y => ndC x && ndC y && Nat.beq ps.size 2
  | .seq x y => match hasRF x with
    | true => okRF x && calmC y
    | false => okRF y
  | .block _ c => okRF c
  | _ => true
def RFc (E : Env) (f : Nat) (g : Operand) (p0 p1 : Nat) (assign body : Code) (M : St → Prop) (σ : St) : Prop :=
  ∃ (T : List (Nat × AV)) (A : List AO) (tok : Nat) (l : List Int) (S : Nat → List AO), Ent E.n0 σ ⟨T, A⟩ ∧ (Nat.blt p0 E.N = true ∧ Nat.blt p1 E.N = true) ∧ ev T g = .fn f [.ptr tok 0] ∧ 0 < l.length ∧ l.length * 8 ≤ 140737488351232 ∧ S 0 = A ∧
    (∀ k, k ≤ l.length → (S k)[tok]? = some (.box [.fz (.list (.int .i64)) l])) ∧ (∀ k, k ≤ l.length → (S k).length = A.length) ∧
    (∀ k j, k + j + 1 = l.length → awp ⟨E.P, E.D, E.G, E.N, A.length, E.cuts⟩ assign (thenQ (awp ⟨E.P, E.D, E.G, E.N, A.length, E.cuts⟩ body (rndQ A.length (S (k + 1)))) fun _ _ => False) ⟨(p1, .fz (.int .i64) (l[j]?.getD 0)) :: (p0, .fz (.int .i64) (j : Int)) :: T, S k⟩) ∧
    M ⟨T, S l.length⟩
def awpR (E : Env) (f : Nat) : Code → (Exit → St → Prop) → (Exit → St → Prop) → St → Prop
  | .seq x y, Q, M, σ => match hasRF x with
    | true => awpR E f x (thenQ (awp E y Q) Q) (thenQ (awp E y M) M) σ
    | false => awp E x (thenQ (awpR E f y Q M) Q) σ
  | .block id c, Q, M, σ => awpR E f c (blkQ id Q) (blkQ id M) σ
  | .rangeFunc g ⟨[p0, p1]⟩ x y, _, M, σ => RFc E f g p0 p1 x y (M .normal) σ
  | .rangeFunc _ _ _ _, _, _, _ => False
  | c, Q, _, σ => awp E c Q σ
def PostR (E : Env) (c0 : Cx) (Q M : Exit → St → Prop) : Exit → Act → World → Prop := fun e a w => Post E c0 Q e a w ∨ ∃ D c1, Mid E.n0 c0 c1 D ∧ PostD E c1 M [{ target := .collected D, args := #[] }] e a w
theorem post_blk {E : Env} {c0 : Cx} {Q : Exit → St → Prop} {id : Nat} {e : Exit} {a : Act} {w : World} (h : Post E c0 (blkQ id Q) e a w) : Exit.inBlock id (Post E c0 Q) e a w := by
  obtain ⟨σ', hq, hs'⟩ := h
  cases e with
  | exit i =>
    show if i = id then _ else _
    have hq : (match Nat.beq i id with | true => Q .normal σ' | false => Q (.exit i) σ') := hq
    by_cases hi : i = id
    · rw [if_pos hi]
      have : Nat.beq i id = true := by rw [hi]; simp
      rw [this] at hq; exact ⟨σ', hq, hs'⟩
    · rw [if_neg hi]
      have : Nat.beq i id = false := by
        cases hb : Nat.beq i id with
        | false => rfl
        | true => exact absurd (beq_eq hb) hi
      rw [this] at hq; exact ⟨σ', hq, hs'⟩
  | _ => exact ⟨σ', hq, hs'⟩
theorem inBlock_mono {id : Nat} {Q Q' : Exit → Act → World → Prop} (h : ∀ e a w, Q e a w → Q' e a w) : ∀ e a w, Exit.inBlock id Q e a w → Exit.inBlock id Q' e a w := fun e a w hq => by
  cases e with
  | exit i =>
    have hq : (if i = id then Q .normal a w else Q (.exit i) a w) := hq
    show if i = id then Q' .normal a w else Q' (.exit i) a w
    by_cases hi : i = id
    · rw [if_pos hi] at hq ⊢; exact h _ _ _ hq
    · rw [if_neg hi] at hq ⊢; exact h _ _ _ hq
  | _ => exact h _ _ _ hq
theorem awpR_sound {E : Env} (ok : EnvOk E) {f : Nat} (hback : BackOk E.P f) (hent : ∀ args w, (callFunc f args).run E.P w = .ok (.enter f args) w) (c0 : Cx) (hG : c0.G = E.G) : ∀ (c : Code), okRF c = true → ∀ (Q M : Exit → St → Prop) (σ : St) (a : Act) (w : World), awpR E f c Q M σ → Sim E.n0 c0 E.N σ a w → c.wpIn (FR none) 2 E.P (PostR E c0 Q M) a w := by
  have plain : ∀ (c : Code) (Q M : Exit → St → Prop) (σ : St) (a : Act) (w : World), awp E c Q σ → Sim E.n0 c0 E.N σ a w → c.wpIn (FR none) 2 E.P (PostR E c0 Q M) a w := fun c Q M σ a w h hs =>
    wpIn_mono (wpIn_wide (n := 2) |>.2 (awp_sound ok c0 hG c Q σ a w h hs)) fun _ _ _ h => .inl h
  intro c
  induction c with
  | seq x y ihx ihy =>
    intro hok Q M σ a w h hs
    unfold okRF at hok
    unfold awpR at h
    cases hx : hasRF x with
    | true =>
      rw [hx] at hok h
      simp only [Bool.and_eq_true] at hok h
      refine wpIn_seq (wpIn_mono (ihx hok.1 _ _ σ a w h hs) fun e a' w' hp => ?_)
      rcases hp with ⟨σ', hq, hs'⟩ | ⟨D, c1, hm, a0, rfl, σ', hq, hs'⟩
      · cases e with
        | normal => exact plain y Q M σ' a' w' hq hs'
        | _ => exact .inl ⟨σ', hq, hs'⟩
      · cases e with
        | normal => exact wpIn_mono (awp_sound_ds ok _ 2 c1 (hm.G.trans hG) y hok.2 M σ' a0 w' hq hs') fun e a w h => .inr ⟨D, c1, hm, h⟩
        | _ => exact .inr ⟨D, c1, hm, a0, rfl, σ', hq, hs'⟩
    | false =>
      rw [hx] at hok h
      simp only at hok h
      refine wpIn_seq (wpIn_mono (wpIn_wide (n := 2) |>.2 (awp_sound ok c0 hG x _ σ a w h hs)) fun e a' w' ⟨σ', hq, hs'⟩ => ?_)
      cases e with
      | normal => exact ihy hok Q M σ' a' w' hq hs'
      | _ => exact .inl ⟨σ', hq, hs'⟩
  | block id c ih =>
    intro hok Q M σ a w h hs
    refine wpIn_block (wpIn_mono (ih hok _ _ σ a w h hs) fun e a' w' hp => ?_)
    rcases hp with hp | ⟨D, c1, hm, a0, rfl, hp⟩
    · exact inBlock_mono (fun _ _ _ h => .inl h) _ _ _ (post_blk hp)
    · have := post_blk hp
      cases e with
      | exit i =>
        have this : (if i = id then Post E c1 M .normal a0 w' else Post E c1 M (.exit i) a0 w') := this
        show if i = id then _ else _
        by_cases hi : i = id
        · rw [if_pos hi] at this ⊢; exact .inr ⟨D, c1, hm, a0, rfl, this⟩
        · rw [if_neg hi] at this ⊢; exact .inr ⟨D, c1, hm, a0, rfl, this⟩
      | _ => exact .inr ⟨D, c1, hm, a0, rfl, this⟩
  | rangeFunc g ps x y _ _ =>
    intro hok Q M σ a w h hs
    obtain ⟨ps⟩ := ps
    match ps, hok, h with
    | [p0, p1], hok, h =>
      unfold okRF at hok
      simp only [Bool.and_eq_true] at hok
      obtain ⟨T, A, tok, l, S, he, ⟨h0, h1⟩, hg, hl, h8, hS0, hSt, hSl, hr, hM⟩ := h
      have hs' : Sim E.n0 c0 E.N ⟨T, A⟩ a w := by
        obtain ⟨cx, hw, hA, H, hT, hE, hd, hN⟩ := hs
        obtain ⟨c', k1, k2, k3, k4, k5⟩ := he cx H hA hE.le.len _ hT
        exact ⟨c', k1.trans hw, k4, k3, k5, hE.trans k2, hd, hN⟩
      have hd : a.defers = [] := by obtain ⟨_, _, _, _, _, _, hd, _⟩ := hs; exact hd
      refine rf_wp ok hback hent hok.1.1 hok.1.2 hG (by simpa using h0) (by simpa using h1) hg hl h8 S hS0 hSt hSl hr hs' fun D c1 hm H1 hA1 hT1 hN1 => ?_
      refine .inr ⟨D, c1, hm, a, rfl, ⟨T, S l.length⟩, hM, c1, rfl, hA1, H1, hT1, ExtN.refl hm.le.len, hd, hN1⟩
    | [], _, h => exact h.elim
    | [_], _, h => exact h.elim
    | _ :: _ :: _ :: _, _, h => exact h.elim
  | _ => intro _ Q M σ a w h hs; exact plain _ Q M σ a w h hs
/-! ### functions -/
theorem fin_ok {E : Env} (ok : EnvOk E) {cx : Cx} (hG : cx.G = E.G) (hn0 : E.n0 = cx.A.length) {fn : Func} {K : AV → List AO → Prop} {σ : St} {tmps : Array Value} {c1 : Cx} (hA1 : c1.A = σ.A) (H1 : HR c1) (hT1 : TR c1 σ.T tmps) (hE1 : ExtN E.n0 cx c1)
    (h : runL (resVs E.D E.G σ.A σ.T fn.results.toList) (fun r => Done E K r σ.A)) : ∃ v, (results fn tmps).run E.P c1.w = .ok v c1.w ∧ ∃ v_1 c' r, Ending.returned v = .returned v_1 ∧ c'.w = c1.w ∧ Ext cx c' ∧ HR c' ∧ Rel c' r v_1 ∧ K r c'.A := by
  obtain ⟨hC, hK⟩ := runL_of h
  have hG1 : c1.G = E.G := hE1.G.trans hG
  rw [← hA1, ← hG1] at hC hK
  obtain ⟨us, k1, k2⟩ := resVs_sound ok.tab H1 hT1 fn.results.toList hC
  obtain ⟨r', A', he, hk⟩ := hK
  have hrun : ∃ v, (results fn tmps).run E.P c1.w = .ok v c1.w ∧ Rel c1 (retV (resVs E.D c1.G c1.A σ.T fn.results.toList).2) v := by
    have hl := k2.length
    have hm : (fn.results.mapM (resOf tmps)).run E.P c1.w = .ok us.toArray c1.w := by
      rw [Array.mapM_eq_mapM_toList, Sem.run_map, k1]; rfl
    refine ⟨if h : us.toArray.size = 1 then us.toArray[0] else .tuple us.toArray, ?_, ?_⟩
    · rw [results_eq]
      simp only [Sem.run_bind, hm, Result.andThen_ok, Sem.run_pure]
    · generalize (resVs E.D c1.G c1.A σ.T fn.results.toList).2 = rs at *
      match rs, us, k2, hl with
      | [], [], _, _ => simp; unfold retV Rel; exact ⟨[], rfl, by unfold RelL; rfl⟩
      | [r], [u], h, _ => simp; unfold RelL at h; obtain ⟨v, l, e, h1, _⟩ := h; cases e; exact h1
      | r :: r2 :: rs, u :: u2 :: us, h, _ =>
        rw [dif_neg (by simp)]
        unfold retV Rel
        exact ⟨_, rfl, h⟩
  obtain ⟨v, hv1, hv2⟩ := hrun
  obtain ⟨c2, j1, j2, j3, j4, j5⟩ := he c1 H1 rfl hE1.le.len v hv2
  refine ⟨v, hv1, v, c2, r', rfl, j1, ?_, j3, j5, by rw [j4]; exact hk⟩
  have := hE1.trans j2
  rw [hn0] at this
  exact ⟨this.le, this.X, this.G, this.far, this.st⟩
theorem acall_mkR {E : Env} (ok : EnvOk E) {f : FuncId} {fn : Func} {c : Code} {args : List AV} {A : List AO} {K : AV → List AO → Prop} {bf : Nat} (hback : BackOk E.P bf) (hent : ∀ args w, (callFunc bf args).run E.P w = .ok (.enter bf args) w) (hf : E.P.funcs[f]? = some fn) (hb : fn.body = some c) (hnm : (fn.name == "runtime.NumGoroutine") = false) (hN : fn.ntmps = E.N) (hle : Nat.ble args.length E.N = true) (hn0 : A.length = E.n0) (hok : okRF c = true)
    (h : awpR E bf c (retQ E fn.results.toList K) (retQ E fn.results.toList K) ⟨zipT args 0, A⟩) : ACall E.P E.G f args A K := by
  refine ⟨⟨fn, hf, by rw [hb]; rfl, hnm⟩, fun cx H hA hG vs hv => ?_⟩
  have hvl := hv.length
  have hle := Nat.le_of_ble_eq_true hle
  refine callsIn_wide (n := 2) |>.1 (callsIn_of_wp_marks hf hb trivial ?_ rfl)
  have hs : Sim E.n0 cx E.N ⟨zipT args 0, A⟩ { tmps := vs.toArray ++ Array.replicate (fn.ntmps - vs.toArray.size) undef, defers := [] } cx.w := by
    refine ⟨cx, rfl, hA, H, fun n => ?_, ExtN.refl (by rw [hA]; omega), rfl, by simp [hN]; omega⟩
    show Rel cx (lk (zipT args 0) n) _
    rw [zipT_lk, if_pos (Nat.zero_le _), Nat.sub_zero]
    by_cases hlt : n < args.length
    · obtain ⟨v, k1, k2⟩ := hv.get _ _ n args[n] (List.getElem?_eq_getElem hlt)
      have e1 : args.getD n .unk = args[n] := getD_of_lt hlt
      rw [e1]
      have : (vs.toArray ++ Array.replicate (fn.ntmps - vs.toArray.size) undef).getD n undef = v := by
        rw [Array.getD_eq_getD_getElem?, Array.getElem?_append_left (by simp; omega)]
        simp [k1]
      rw [this]; exact k2
    · have e1 : args.getD n .unk = .unk := by rw [List.getD, List.getElem?_eq_none (by omega)]; rfl
      rw [e1]; exact rel_unk
  have hn : E.n0 = cx.A.length := by rw [hA]; exact hn0.symm
  refine wpIn_mono (awpR_sound ok hback hent cx hG c hok _ _ _ _ _ h hs) fun e a w hp => ?_
  rcases hp with ⟨σ, hq, c1, rfl, hA1, H1, hT1, hE1, hd1, _⟩ | ⟨D, c1, hm, a0, rfl, σ, hq, c2, rfl, hA2, H2, hT2, hE2, hd2, _⟩
  · have fin := fun h => fin_ok (K := K) (fn := fn) ok hG hn hA1 H1 hT1 hE1 h
    cases e with
    | normal => show LeavesInM _ _ _ _ _ _ a.defers _ _; rw [hd1]; exact fin hq
    | ret => show LeavesInM _ _ _ _ _ _ a.defers _ _; rw [hd1]; exact fin hq
    | _ => exact hq.elim
  · have x2 : c2.X D := by rw [hE2.X]; exact hm.XD
    have d2 : c2.w.heap[D]? = some (.deferred (some [])) := (hE2.far D hm.XD).trans hm.dfr
    have xs : ∀ b, cx.X b → c2.X b := fun b hb => by rw [hE2.X]; exact hm.X b hb
    have t : Turn c2 { c2 with X := cx.X, w := c2.w.putObj D (.deferred none) } := by
      refine ⟨rfl, rfl, rfl, fun b hI _ => ⟨⟨fun hx => hI.1 (xs b hx), hI.2⟩, World.putObj_heap_other (fun e => hI.1 (e ▸ x2))⟩, fun t b hl hb => ⟨fun hx => H2.far t b hl hb (xs b hx), World.putObj_heap_other (fun e => H2.far t b hl hb (e ▸ x2))⟩, fun b hb => ?_⟩
      have := H2.old b (xs b hb)
      show b < (c2.w.putObj D (.deferred none)).heap.size
      simpa using this
    have hE3 : ExtN E.n0 cx { c2 with X := cx.X, w := c2.w.putObj D (.deferred none) } := by
      refine ⟨le_trans hm.le (le_trans hE2.le t.le hE2.le.len) (Nat.le_refl _), rfl, hE2.G.trans hm.G, fun b hb => ?_, hm.st.trans (hE2.st.trans (same_put _ _ _))⟩
      exact (World.putObj_heap_other (show b ≠ D from fun e => hm.notX (by rw [← e]; exact hb))).trans ((hE2.far b (hm.X b hb)).trans (hm.far b hb))
    have fin := fun h => fin_ok (K := K) (fn := fn) ok hG hn (c1 := { c2 with X := cx.X, w := c2.w.putObj D (.deferred none) }) hA2 (t.hr H2) (hT2.le t.le) hE3 h
    cases e with
    | normal => exact ⟨by simp, .inl ⟨D, _, rfl, run_takeDeferred d2, fin hq⟩⟩
    | ret => exact ⟨by simp, .inl ⟨D, _, rfl, run_takeDeferred d2, fin hq⟩⟩
    | _ => exact hq.elim
end Go.Ab
/-
  slices.Backward's closure over ints: every round from the last one to the first one.
-/
namespace Go.Proofs.YtepkknjncpbahaaDoor
open Go Go.RowKit Go.Shelf
attribute [local go_sem] Oper.semAt_some
set_option maxRecDepth 100000 in
set_option maxHeartbeats 2000000 in
theorem backward1_in (F : Fence) (n : Nat) (h7 : F.fn 61) (hro : F.round = none) (hn : 1 ≤ n) (l Bs len : Nat) (zs : List Int) (h0l : 0 < len) (hreach : len * 8 ≤ 140737488351232) (J : Nat → World → Prop)
    (hcell : ∀ k W, J k W → ∃ b off cap, W.cell? ⟨Bs, 0, none⟩ = some (.slice (some ⟨b, off, none⟩) len cap) ∧ ∀ j, j < len → W.cell? ⟨b, off + j, none⟩ = some (.int .i64 (zs[j]?.getD 0)))
    (hY : ∀ k j W, J k W → k + j + 1 = len → YieldAt F (n - 1) Tryd.prog l #[.int .i64 (j : Int), .int .i64 (zs[j]?.getD 0)] W fun e W' => e = .returned (.bool true) ∧ J (k + 1) W')
    (W : World) (h0 : J 0 W) :
    CallsIn F n Tryd.prog 61 #[.func (.yield l) #[] #[], .pointer (some ⟨Bs, 0, none⟩)] W fun e W' => (∃ v, e = .returned v) ∧ J len W' := by
  refine callsIn_of_wp Tryd.func61 rfl h7 ?_ hro
  simp only [Tryd.ntmps61, List.size_toArray, List.length_cons, List.length_nil, Nat.reduceAdd, Nat.reduceSub, Array.replicate_succ, Array.replicate_zero, List.push_toArray, List.append_toArray, List.nil_append, List.cons_append]
  obtain ⟨b0, off0, cap0, hBs, _⟩ := hcell 0 W h0
  gi_wp2
  gi_loopw [3] (fun i wr => (∃ k j : Nat, k + j + 1 = len ∧ i = .int .i64 (j : Int) ∧ J k wr) ∨ (i = .int .i64 (-1) ∧ J len wr))
    (fun i _ => (intOf i + 1).toNat)
  case atStart => exact .inl ⟨0, len - 1, by omega, by simp; omega, h0⟩
  case round =>
    rcases hrel with ⟨k, j, hkj, rfl, hJs⟩ | ⟨rfl, hJs⟩
    · obtain ⟨b, off, cap, hBs', hcs⟩ := hcell k wr hJs
      have hcx := hcs j (by omega)
      have hjl : j < len := by omega
      obtain ⟨fn, tmps, assign, body, hy, hR⟩ := hY k j wr hJs hkj
      gi_wp2
      refine hR.mono ?_
      rintro e W3 ⟨rfl, hJ3⟩
      gi_wp2
      go_roundw
      case rel =>
        by_cases hj : j = 0
        · subst hj
          exact .inr ⟨by simp, by rw [← hkj]; exact hJ3⟩
        · exact .inl ⟨k + 1, j - 1, by omega, by simp; omega, hJ3⟩
      case measure => simp [intOf]
    · gi_wp2
      go_end0
      exact ⟨⟨_, rfl⟩, hJs⟩
theorem backOk : Go.Ab.BackOk Tryd.prog 61 := fun n l Bs len zs hn h0 h8 J hcell hY W hW =>
  backward1_in Fence.wide n trivial rfl hn l Bs len zs h0 h8 J hcell hY W hW
theorem backEnt : ∀ args w, (callFunc 61 args).run Tryd.prog w = .ok (.enter 61 args) w :=
  enters_of Tryd.func61 (by kernel_rfl) rfl
end Go.Proofs.YtepkknjncpbahaaDoor
/-
  What gathers: the walk of the program's.
-/
namespace Go.Proofs.YtepkknjncpbahaaDoor
open Go Go.Ab
set_option maxRecDepth 100000
theorem backward_any (G : List (Nat × Value)) (l : List Int) (K : AV → List AO → Prop) (hK : K (.fn 61 [.ptr 0 0]) [.box [.fz (.list int) l]]) :
    ACall Tryd.prog G 47 [.fz (.list int) l] [] K := by
  refine acall_mk (E := envAt G 4 0) (envOk _ _ _) Tryd.func47 rfl rfl rfl rfl rfl ?_
  (repeat' (first | exact trivial | exact fun h => h | refine And.intro ?_ ?_ | (intro hb; first | (simp at hb; done) | (simp at hb) | skip) | omega | exact rfl | exact Nat.le_refl _ | (show _ + 1 ≤ 4294967296; omega) | (dsimp only; omega) | (show (_ : Int) ≤ (_ : Int); omega) | (show _ < List.length _; simp only [List.length_set, List.length_append, List.length_take]; omega) | (show wantB _ _ = true; simp; done) | (show wantB _ _ = true; simp; omega) | (show (_ : Bool) = _; simp_all; done) | (exfalso; omega) | refine aRegion_auto (by decide +kernel) ?_ | fail))
  exact ⟨_, _, REnt.refl _ _ _, hK⟩
/-- water goes down, from the last one taken to the first one: what is in each cell when m are over -/
def gaN (to : Nat → Nat) (ord : List Nat) (rain : Nat → Int) : Nat → Nat → Int
  | 0, j => rain j
  | m + 1, j => if to (ord.getD (ord.length - 1 - m) 0) ≠ ord.getD (ord.length - 1 - m) 0 ∧ j = to (ord.getD (ord.length - 1 - m) 0) then gaN to ord rain m j + gaN to ord rain m (ord.getD (ord.length - 1 - m) 0) else gaN to ord rain m j
set_option maxHeartbeats 4000000 in
theorem gather_any (G : List (Nat × Value)) (a : Ras) {w h : Nat} (R : RasN a w h) {to : Nat → Nat} {ord : List Nat} (F : FlowN w h to ord) (fill : List Int) (rain : Nat → Int)
    (hbd : ∀ m j, m ≤ w * h → j < w * h → 0 ≤ gaN to ord rain m j ∧ gaN to ord rain m j ≤ 2305843009213693952)
    (K : AV → List AO → Prop) (hK : K (.ref 0 0 (w * h)) [.row int (lst (w * h) (gaN to ord rain (w * h)))]) :
    ACall Tryd.prog G 40 [.fz RasT a, .fz FT (fill, lst (w * h) (fun i => wayN w i (to i)), natL ord), .fz (.list int) (lst (w * h) rain)] [] K := by
  have hl := R.len
  have hwh := R.wh
  obtain ⟨n, hn⟩ : ∃ n, n = w * h := ⟨_, rfl⟩
  rw [← hn] at hl hwh hbd hK ⊢
  refine acall_mkR (E := envAt G 47 0) (envOk _ _ _) backOk backEnt Tryd.func40 rfl rfl rfl rfl rfl rfl ?_
  have hr := lst_len n rain
  have w0 := R.w0
  have h0 := R.h0
  have n0 : 0 < n := by rw [hn]; exact Nat.mul_pos w0 h0
  (repeat' (first | exact trivial | exact fun h => h | refine And.intro ?_ ?_ | (intro hb; first | (simp at hb; done) | (simp at hb) | skip) | omega | exact rfl | exact Nat.le_refl _ | (show _ + 1 ≤ 4294967296; omega) | (dsimp only; omega) | (show (_ : Int) ≤ (_ : Int); omega) | (show _ < List.length _; simp only [List.length_set, List.length_append, List.length_take]; omega) | (show wantB _ _ = true; simp; done) | (show wantB _ _ = true; simp; omega) | (show (_ : Bool) = _; simp_all; done) | (exfalso; omega) | fail))
  refine acall_conv [.keep] _ _ _ rfl trivial (acall_frame0 rfl (clone_any _ (lst n rain) (by omega) (by omega) _ ?_))
  (repeat' (first | exact trivial | exact fun h => h | refine And.intro ?_ ?_ | (intro hb; first | (simp at hb; done) | (simp at hb) | skip) | omega | exact rfl | exact Nat.le_refl _ | (show _ + 1 ≤ 4294967296; omega) | (dsimp only; omega) | (show (_ : Int) ≤ (_ : Int); omega) | (show _ < List.length _; simp only [List.length_set, List.length_append, List.length_take]; omega) | (show wantB _ _ = true; simp; done) | (show wantB _ _ = true; simp; omega) | (show (_ : Bool) = _; simp_all; done) | (exfalso; omega) | fail))
  refine acall_frame0 rfl (backward_any _ (natL ord) _ ?_)
  (repeat' (first | exact trivial | exact fun h => h | refine And.intro ?_ ?_ | (intro hb; first | (simp at hb; done) | (simp at hb) | skip) | omega | exact rfl | exact Nat.le_refl _ | (show _ + 1 ≤ 4294967296; omega) | (dsimp only; omega) | (show (_ : Int) ≤ (_ : Int); omega) | (show _ < List.length _; simp only [List.length_set, List.length_append, List.length_take]; omega) | (show wantB _ _ = true; simp; done) | (show wantB _ _ = true; simp; omega) | (show (_ : Bool) = _; simp_all; done) | (exfalso; omega) | fail))
  have hol : (natL ord).length = n := by rw [natL_len, F.len, hn]
  let S : Nat → List AO := fun m => [.box [.fz int a.1, .fz int a.2.1, .fz (.list int) a.2.2], .box [.fz (.list int) fill, .fz (.list int) (lst n (fun i => wayN w i (to i))), .fz (.list int) (natL ord)], .row int (lst n (gaN to ord rain m)), .box [.ref 2 0 n], .box [.fz (.list int) (natL ord)]]
  refine ⟨[(3, .ptr 0 0), (4, .ptr 1 0), (7, .ptr 3 0), (16, .fn 61 [.ptr 4 0])], S 0, 4, natL ord, S, Ent.sub ?_ ?_, ⟨rfl, rfl⟩, rfl, by omega, by omega, rfl, fun _ _ => rfl, fun _ _ => rfl, ?_, ?_⟩
  · (repeat' (first | exact rfl | refine cons_eq ?_ ?_))
    exact congrArg (fun z => AO.box [.ref 2 0 z]) hr
  · (repeat' (first | exact trivial | exact rfl | refine And.intro ?_ ?_))
  · intro m j hmj
    rw [hol] at hmj
    have hjo : j < ord.length := by rw [F.len]; omega
    obtain ⟨c, hc⟩ : ∃ c, c = ord[j] := ⟨_, rfl⟩
    have hcm : c ∈ ord := by rw [hc]; exact List.getElem_mem _
    have hcn : c < n := by have := (F.mem c).1 hcm; omega
    have hcv : (natL ord)[j]?.getD 0 = (c : Int) := by rw [hc]; exact natL_get ord hjo
    have hck : ord.getD (ord.length - 1 - m) 0 = c := by
      have : ord.length - 1 - m = j := by rw [F.len]; omega
      rw [this, hc, List.getD_eq_getElem?_getD, List.getElem?_eq_getElem hjo]; rfl
    have hG := lst_len n (gaN to ord rain m)
    have g2 : (lst n (fun i => wayN w i (to i)))[c]?.getD int.dft = wayN w c (to c) := lst_get _ hcn
    have hL := lst_len n (fun i => wayN w i (to i))
    rw [hcv]
    by_cases hto : to c = c
    · have hw8 : wayN w c (to c) = 8 := by rw [hto, way_self]
      have eS : gaN to ord rain (m + 1) = gaN to ord rain m := by
        funext i
        show (if to (ord.getD (ord.length - 1 - m) 0) ≠ ord.getD (ord.length - 1 - m) 0 ∧ i = to (ord.getD (ord.length - 1 - m) 0) then _ else _) = _
        rw [hck, if_neg (fun x => x.1 hto)]
      (repeat' (first | exact trivial | exact fun h => h | refine And.intro ?_ ?_ | (intro hb; first | (simp at hb; done) | (simp at hb) | skip) | omega | exact rfl | exact Nat.le_refl _ | (show _ + 1 ≤ 4294967296; omega) | (dsimp only; omega) | (show (_ : Int) ≤ (_ : Int); omega) | (show _ < List.length _; simp only [List.length_set, List.length_append, List.length_take]; omega) | (show wantB _ _ = true; simp; done) | (show wantB _ _ = true; simp; omega) | (show (_ : Bool) = _; simp_all; done) | (exfalso; omega) | refine aRegion_auto (by decide +kernel) ?_ | fail))
      refine ⟨(), Ent.sub ?_ trivial⟩
      show S m = S (m + 1)
      show [_, _, AO.row int (lst n (gaN to ord rain m)), _, _] = [_, _, AO.row int (lst n (gaN to ord rain (m + 1))), _, _]
      rw [eS]
    · obtain ⟨v, hv8, hwv, hnb⟩ := way_to (w := w) (h := h) (i := c) (t := to c) (by omega) (by have := F.lt c (by omega); omega) (touchN_symm (F.touch c (by omega) hto))
      have htn := F.lt c (by omega)
      have g2' : List.getD (lst n (fun i => wayN w i (to i))) (Int.toNat (c : Int)) int.dft = wayN w c (to c) := lst_at _ hcn
      (repeat' (first | exact trivial | exact fun h => h | refine And.intro ?_ ?_ | (intro hb; first | (simp at hb; done) | (simp at hb) | skip) | omega | exact rfl | exact Nat.le_refl _ | (show _ + 1 ≤ 4294967296; omega) | (dsimp only; omega) | (show (_ : Int) ≤ (_ : Int); omega) | (show _ < List.length _; simp only [List.length_set, List.length_append, List.length_take]; omega) | (show wantB _ _ = true; simp; done) | (show wantB _ _ = true; simp; omega) | (show (_ : Bool) = _; simp_all; done) | (exfalso; omega) | refine aRegion_auto (by decide +kernel) ?_ | fail))
      rw [g2', hwv]
      apply exEff
      · refine acall_conv [.dat RasT, .keep, .keep] _ _ _ rfl trivial (acall_frame0 rfl (neighbour_any _ a R c v (by omega) hv8 _ (fun u hu => ?_) (fun hnone => ?_)))
        · rw [hnb] at hu; cases hu; exact ⟨rfl, rfl⟩
        · rw [hnb] at hnone; cases hnone
      have q1 : List.getD (lst n (gaN to ord rain m)) (0 + Int.toNat ((to c : Nat) : Int)) int.dft = gaN to ord rain m (to c) := by rw [Nat.zero_add, Int.toNat_natCast]; exact lst_at _ (by omega)
      have q2 : List.getD (lst n (gaN to ord rain m)) (0 + Int.toNat (c : Int)) int.dft = gaN to ord rain m c := by rw [Nat.zero_add, Int.toNat_natCast]; exact lst_at _ hcn
      have b1 := hbd m (to c) (by omega) (by omega)
      have b2 := hbd m c (by omega) hcn
      (repeat' (first | exact trivial | exact fun h => h | refine And.intro ?_ ?_ | (intro hb; first | (simp at hb; done) | (simp at hb) | skip) | omega | exact rfl | exact Nat.le_refl _ | (show _ + 1 ≤ 4294967296; omega) | (dsimp only; omega) | (show (_ : Int) ≤ (_ : Int); omega) | (show _ < List.length _; simp only [List.length_set, List.length_append, List.length_take]; omega) | (show wantB _ _ = true; simp; done) | (show wantB _ _ = true; simp; omega) | (show (_ : Bool) = _; simp_all; done) | (exfalso; omega) | refine aRegion_auto (by decide +kernel) ?_ | fail))
      · (apply exEff; focus (repeat' (first | exact ⟨rfl, rfl⟩ | exact trivial | refine And.intro ?_ ?_ | omega | exact Nat.le_refl _ | (show _ + 1 ≤ 4294967296; omega))))
        (repeat' (first | exact trivial | exact fun h => h | refine And.intro ?_ ?_ | (intro hb; first | (simp at hb; done) | (simp at hb) | skip) | omega | exact rfl | exact Nat.le_refl _ | (show _ + 1 ≤ 4294967296; omega) | (dsimp only; omega) | (show (_ : Int) ≤ (_ : Int); omega) | (show _ < List.length _; simp only [List.length_set, List.length_append, List.length_take]; omega) | (show wantB _ _ = true; simp; done) | (show wantB _ _ = true; simp; omega) | (show (_ : Bool) = _; simp_all; done) | (exfalso; omega) | refine aRegion_auto (by decide +kernel) ?_ | fail))
        refine ⟨(), Ent.sub ?_ trivial⟩
        show [_, _, AO.row int _, _, _] = [_, _, AO.row int (lst n (gaN to ord rain (m + 1))), _, _]
        (repeat' (first | exact rfl | refine cons_eq ?_ ?_))
        refine row_set1 (k := to c) (f := gaN to ord rain m) (g := gaN to ord rain (m + 1)) (gaN to ord rain m (to c) + gaN to ord rain m c) ?_ fun i hi => ?_
        · show List.getD (lst n (gaN to ord rain m)) (0 + Int.toNat ((to c : Nat) : Int)) int.dft + List.getD (lst n (gaN to ord rain m)) (0 + Int.toNat (c : Int)) int.dft = _
          rw [q1, q2]
        · show _ = (if to (ord.getD (ord.length - 1 - m) 0) ≠ ord.getD (ord.length - 1 - m) 0 ∧ i = to (ord.getD (ord.length - 1 - m) 0) then gaN to ord rain m i + gaN to ord rain m (ord.getD (ord.length - 1 - m) 0) else gaN to ord rain m i)
          rw [hck]
          by_cases e : i = to c
          · rw [if_pos e, if_pos ⟨hto, e⟩, e]
          · rw [if_neg e, if_neg (fun x => e x.2)]
  · rw [hol]
    show awp _ _ _ _
    (repeat' (first | exact trivial | exact fun h => h | refine And.intro ?_ ?_ | (intro hb; first | (simp at hb; done) | (simp at hb) | skip) | omega | exact rfl | exact Nat.le_refl _ | (show _ + 1 ≤ 4294967296; omega) | (dsimp only; omega) | (show (_ : Int) ≤ (_ : Int); omega) | (show _ < List.length _; simp only [List.length_set, List.length_append, List.length_take]; omega) | (show wantB _ _ = true; simp; done) | (show wantB _ _ = true; simp; omega) | (show (_ : Bool) = _; simp_all; done) | (exfalso; omega) | refine aRegion_auto (by decide +kernel) ?_ | fail))
    refine ⟨_, _, REnt.ren [2] rfl ?_ ?_, hK⟩
    · (repeat' (first | exact trivial | exact rfl | refine And.intro ?_ ?_))
    · (repeat' (first | exact trivial | exact rfl | refine And.intro ?_ ?_))
end Go.Proofs.YtepkknjncpbahaaDoor
/-
  What gathers: the program's is the document's. Plain.
-/
namespace Go.Proofs.YtepkknjncpbahaaDoor
open Go Go.Ab
def sumN : Nat → (Nat → Int) → Int
  | 0, _ => 0
  | n + 1, f => sumN n f + f n
theorem sumN_congr {f g : Nat → Int} : ∀ n, (∀ i, i < n → f i = g i) → sumN n f = sumN n g
  | 0, _ => rfl
  | n + 1, h => by unfold sumN; rw [sumN_congr n fun i hi => h i (by omega), h n (by omega)]
theorem sumN_add (f g : Nat → Int) : ∀ n, sumN n (fun i => f i + g i) = sumN n f + sumN n g
  | 0 => rfl
  | n + 1 => by
    show sumN n (fun i => f i + g i) + (f n + g n) = (sumN n f + f n) + (sumN n g + g n)
    rw [sumN_add f g n]; omega
theorem sumN_bd {f : Nat → Int} {B : Nat} : ∀ n, (∀ i, i < n → 0 ≤ f i ∧ f i ≤ B) → 0 ≤ sumN n f ∧ sumN n f ≤ (n * B : Nat)
  | 0, _ => by unfold sumN; omega
  | n + 1, h => by
    unfold sumN
    have h1 := sumN_bd n fun i hi => h i (by omega)
    have h2 := h n (by omega)
    have : (n + 1) * B = n * B + B := Nat.succ_mul n B
    omega
theorem sumN_zero : ∀ n, sumN n (fun _ => 0) = 0
  | 0 => rfl
  | n + 1 => by unfold sumN; rw [sumN_zero n]; rfl
theorem sumN_one (f : Nat → Int) (j : Nat) : ∀ n, j < n → sumN n (fun i => if (i == j) = true then f i else 0) = f j
  | 0, h => by omega
  | n + 1, h => by
    unfold sumN
    by_cases e : j = n
    · subst e
      have : sumN j (fun i => if (i == j) = true then f i else 0) = 0 := by
        rw [sumN_congr (g := fun _ => 0) j fun i hi => by rw [if_neg (by simp; omega)], sumN_zero]
      rw [this]; simp
    · rw [sumN_one f j n (by omega)]
      show f j + (if (n == j) = true then f n else 0) = f j
      rw [if_neg (by simp; omega)]; omega
section
variable {w h : Nat} {to : Nat → Nat} {ord : List Nat}
def kAt (ord : List Nat) (m : Nat) : Nat := ord.getD (ord.length - 1 - m) 0
/-- the cells at which what rains on i has been when m cells are over -/
def memN (to : Nat → Nat) (ord : List Nat) : Nat → Nat → Nat → Bool
  | 0, i, j => i == j
  | m + 1, i, j => memN to ord m i j || (decide (to (kAt ord m) ≠ kAt ord m) && j == to (kAt ord m) && memN to ord m i (kAt ord m))
theorem memN_succ {m i j : Nat} : memN to ord (m + 1) i j = true ↔ memN to ord m i j = true ∨ (to (kAt ord m) ≠ kAt ord m ∧ j = to (kAt ord m) ∧ memN to ord m i (kAt ord m) = true) := by
  rw [memN]; simp [and_assoc]
theorem FlowN.kAt (F : FlowN w h to ord) {m : Nat} (hm : m < w * h) : kAt ord m < w * h ∧ ord.idxOf (kAt ord m) = w * h - 1 - m := by
  have hl : ord.length - 1 - m < ord.length := by rw [F.len]; omega
  have e : Go.Proofs.YtepkknjncpbahaaDoor.kAt ord m = ord[ord.length - 1 - m] := by unfold Go.Proofs.YtepkknjncpbahaaDoor.kAt; rw [List.getD_eq_getElem?_getD, List.getElem?_eq_getElem hl]; rfl
  rw [e]
  exact ⟨(F.mem _).1 (List.getElem_mem _), by rw [F.nodup.idxOf_getElem _ hl, F.len]⟩
theorem FlowN.kAt_idx (F : FlowN w h to ord) {j : Nat} (hj : j < w * h) : Go.Proofs.YtepkknjncpbahaaDoor.kAt ord (w * h - 1 - ord.idxOf j) = j := by
  have hx := F.idx hj
  unfold Go.Proofs.YtepkknjncpbahaaDoor.kAt
  have : ord.length - 1 - (w * h - 1 - ord.idxOf j) = ord.idxOf j := by rw [F.len]; omega
  rw [this, List.getD_eq_getElem?_getD, List.getElem?_eq_getElem (List.idxOf_lt_length_of_mem ((F.mem j).2 hj)), List.getElem_idxOf]
  rfl
theorem FlowN.mem_one (F : FlowN w h to ord) {i : Nat} : ∀ m, m ≤ w * h → ∀ j j', memN to ord m i j = true → memN to ord m i j' = true → ord.idxOf j < w * h - m → ord.idxOf j' < w * h - m → j = j'
  | 0, _, j, j', h1, h2, _, _ => by
    unfold memN at h1 h2
    simp at h1 h2; omega
  | m + 1, hm, j, j', h1, h2, h3, h4 => by
    obtain ⟨k1, k2⟩ := F.kAt (m := m) (by omega)
    rw [memN_succ] at h1 h2
    rcases h1 with h1 | ⟨a1, a2, a3⟩
    · rcases h2 with h2 | ⟨b1, b2, b3⟩
      · exact F.mem_one m (by omega) j j' h1 h2 (by omega) (by omega)
      · have := F.mem_one m (by omega) j _ h1 b3 (by omega) (by omega)
        rw [this] at h3; omega
    · rcases h2 with h2 | ⟨b1, b2, b3⟩
      · have := F.mem_one m (by omega) j' _ h2 a3 (by omega) (by omega)
        rw [this] at h4; omega
      · rw [a2, b2]
theorem FlowN.ga_sum (F : FlowN w h to ord) (rain : Nat → Int) : ∀ m, m ≤ w * h → ∀ j, j < w * h → gaN to ord rain m j = sumN (w * h) (fun i => if memN to ord m i j = true then rain i else 0)
  | 0, _, j, hj => by
    show rain j = _
    exact (sumN_one rain j (w * h) hj).symm
  | m + 1, hm, j, hj => by
    obtain ⟨k1, k2⟩ := F.kAt (m := m) (by omega)
    show (if to (Go.Proofs.YtepkknjncpbahaaDoor.kAt ord m) ≠ Go.Proofs.YtepkknjncpbahaaDoor.kAt ord m ∧ j = to (Go.Proofs.YtepkknjncpbahaaDoor.kAt ord m) then gaN to ord rain m j + gaN to ord rain m (Go.Proofs.YtepkknjncpbahaaDoor.kAt ord m) else gaN to ord rain m j) = _
    by_cases c : to (Go.Proofs.YtepkknjncpbahaaDoor.kAt ord m) ≠ Go.Proofs.YtepkknjncpbahaaDoor.kAt ord m ∧ j = to (Go.Proofs.YtepkknjncpbahaaDoor.kAt ord m)
    · rw [if_pos c, F.ga_sum rain m (by omega) j hj, F.ga_sum rain m (by omega) _ k1, ← sumN_add]
      have hp := F.pos _ k1 c.1
      refine sumN_congr _ fun i hi => ?_
      by_cases h1 : memN to ord m i j = true
      · by_cases h2 : memN to ord m i (Go.Proofs.YtepkknjncpbahaaDoor.kAt ord m) = true
        · have := F.mem_one m (by omega) j _ h1 h2 (by rw [c.2]; omega) (by omega)
          exact absurd (c.2.symm.trans this) c.1
        · rw [if_pos h1, if_neg h2, if_pos (memN_succ.2 (.inl h1))]; omega
      · by_cases h2 : memN to ord m i (Go.Proofs.YtepkknjncpbahaaDoor.kAt ord m) = true
        · rw [if_neg h1, if_pos h2, if_pos (memN_succ.2 (.inr ⟨c.1, c.2, h2⟩))]; omega
        · rw [if_neg h1, if_neg h2, if_neg (fun hs => (memN_succ.1 hs).elim h1 fun hs => h2 hs.2.2)]; omega
    · rw [if_neg c, F.ga_sum rain m (by omega) j hj]
      refine sumN_congr _ fun i hi => ?_
      by_cases h1 : memN to ord m i j = true
      · rw [if_pos h1, if_pos (memN_succ.2 (.inl h1))]
      · rw [if_neg h1, if_neg (fun hs => (memN_succ.1 hs).elim h1 fun hs => c ⟨hs.1, hs.2.1⟩)]
/-! ### the way of what rains on one cell -/
def itF (to : Nat → Nat) : Nat → Nat → Nat
  | 0, i => i
  | t + 1, i => to (itF to t i)
theorem memN_mono {m m' i j : Nat} (h : memN to ord m i j = true) : ∀ d, m' = m + d → memN to ord m' i j = true
  | 0, e => by subst e; exact h
  | d + 1, e => by subst e; exact memN_succ.2 (.inl (memN_mono h d rfl))
theorem FlowN.mem_in (F : FlowN w h to ord) {i j : Nat} (hj : j < w * h) : ∀ m, m ≤ w * h → memN to ord m i j = true → w * h - 1 - ord.idxOf j ≤ m → memN to ord (w * h - 1 - ord.idxOf j) i j = true
  | 0, _, hh, hx => by
    have : w * h - 1 - ord.idxOf j = 0 := by omega
    rw [this]; exact hh
  | m + 1, hm, hh, hx => by
    by_cases e : w * h - 1 - ord.idxOf j = m + 1
    · rw [e]; exact hh
    · obtain ⟨k1, k2⟩ := F.kAt (m := m) (by omega)
      rcases memN_succ.1 hh with hh | ⟨a1, a2, _⟩
      · exact F.mem_in hj m (by omega) hh (by omega)
      · have := F.pos _ k1 a1
        rw [← a2] at this
        omega
theorem FlowN.mem_to (F : FlowN w h to ord) {i j : Nat} (hj : j < w * h) (hm : memN to ord (w * h) i j = true) (ht : to j ≠ j) : memN to ord (w * h) i (to j) = true := by
  have h1 := F.mem_in hj _ (Nat.le_refl _) hm (by omega)
  have hk := F.kAt_idx hj
  have hx := F.idx hj
  have h2 : memN to ord (w * h - 1 - ord.idxOf j + 1) i (to j) = true := memN_succ.2 (.inr (by rw [hk]; exact ⟨ht, rfl, h1⟩))
  exact memN_mono h2 (ord.idxOf j) (by omega)
theorem itF_mem {i t : Nat} (hstop : to (itF to t i) = itF to t i) : ∀ m j, memN to ord m i j = true → ∃ s, s ≤ t ∧ itF to s i = j
  | 0, j, h => ⟨0, by omega, by unfold memN at h; show i = j; simpa using h⟩
  | m + 1, j, h => by
    rcases memN_succ.1 h with h | ⟨a1, a2, a3⟩
    · exact itF_mem hstop m j h
    · obtain ⟨s, h1, h2⟩ := itF_mem hstop m _ a3
      have : s ≠ t := fun e => by subst e; rw [h2] at hstop; exact a1 hstop
      exact ⟨s + 1, by omega, by show to (itF to s i) = j; rw [h2, a2]⟩
theorem FlowN.it_lt (F : FlowN w h to ord) {i : Nat} (hi : i < w * h) : ∀ t, itF to t i < w * h
  | 0 => hi
  | t + 1 => F.lt _ (F.it_lt hi t)
theorem FlowN.mem_it (F : FlowN w h to ord) {i : Nat} (hi : i < w * h) : ∀ t, (∀ s, s < t → to (itF to s i) ≠ itF to s i) → memN to ord (w * h) i (itF to t i) = true
  | 0, _ => memN_mono (m := 0) (by unfold memN; simp [itF]) (w * h) (by omega)
  | t + 1, hs => F.mem_to (F.it_lt hi t) (F.mem_it hi t fun s h => hs s (by omega)) (hs t (by omega))
theorem FlowN.it_down (F : FlowN w h to ord) {i : Nat} (hi : i < w * h) {t : Nat} (hs : ∀ s, s < t → to (itF to s i) ≠ itF to s i) : ∀ s, s < t → ord.idxOf (itF to t i) < ord.idxOf (itF to s i) := by
  induction t with
  | zero => intro s h; omega
  | succ t ih =>
    intro s h
    have h1 := F.pos _ (F.it_lt hi t) (hs t (by omega))
    show ord.idxOf (to (itF to t i)) < _
    by_cases e : s = t
    · subst e; exact h1
    · have := ih (fun s h => hs s (by omega)) s (by omega)
      omega
end
end Go.Proofs.YtepkknjncpbahaaDoor
/-
  What gathers: the document's walk.
-/
namespace Go.Proofs.YtepkknjncpbahaaDoor
open Go Go.Ab
set_option maxRecDepth 100000
section
variable {w h : Nat} {to : Nat → Nat} {ord : List Nat}
def hN (n : Nat) (to : Nat → Nat) (ord : List Nat) (rain : Nat → Int) (i j : Nat) : Int := sumN i (fun u => if memN to ord n u j = true then rain u else 0)
def visN (to : Nat → Nat) : Nat → Nat → Nat → Bool
  | 0, i, j => j == i
  | t + 1, i, j => visN to t i j || j == itF to (t + 1) i
theorem visN_iff {i j : Nat} : ∀ t, visN to t i j = true ↔ ∃ s, s ≤ t ∧ itF to s i = j
  | 0 => by
    unfold visN
    constructor
    · intro hh
      have : j = i := by simpa using hh
      exact ⟨0, by omega, this.symm⟩
    · rintro ⟨s, hs, e⟩
      obtain rfl : s = 0 := by omega
      have : i = j := e
      simp [this]
  | t + 1 => by
    unfold visN
    rw [Bool.or_eq_true, visN_iff t]
    constructor
    · rintro (⟨s, hs, e⟩ | hh)
      · exact ⟨s, by omega, e⟩
      · have : j = itF to (t + 1) i := by simpa using hh
        exact ⟨t + 1, by omega, this.symm⟩
    · rintro ⟨s, hs, e⟩
      by_cases hst : s = t + 1
      · subst hst; exact .inr (by rw [e]; simp)
      · exact .inl ⟨s, by omega, e⟩
def pN (n : Nat) (to : Nat → Nat) (ord : List Nat) (rain : Nat → Int) (i t j : Nat) : Int := hN n to ord rain i j + (if visN to t i j = true then rain i else 0)
theorem FlowN.vis_new (F : FlowN w h to ord) {i t : Nat} (hi : i < w * h) (hs : ∀ s, s < t + 1 → to (itF to s i) ≠ itF to s i) : visN to t i (itF to (t + 1) i) = false := by
  rw [← Bool.not_eq_true]
  intro hv
  obtain ⟨s, h1, h2⟩ := (visN_iff t).1 hv
  have := F.it_down hi hs s (by omega)
  rw [h2] at this
  omega
theorem FlowN.p_end (F : FlowN w h to ord) (rain : Nat → Int) {i t : Nat} (hi : i < w * h) (hs : ∀ s, s < t → to (itF to s i) ≠ itF to s i) (he : to (itF to t i) = itF to t i) {j : Nat} : pN (w * h) to ord rain i t j = hN (w * h) to ord rain (i + 1) j := by
  show hN (w * h) to ord rain i j + _ = hN (w * h) to ord rain i j + (if memN to ord (w * h) i j = true then rain i else 0)
  by_cases hm : memN to ord (w * h) i j = true
  · obtain ⟨s, h1, h2⟩ := itF_mem he _ _ hm
    rw [if_pos hm, if_pos ((visN_iff t).2 ⟨s, h1, h2⟩)]
  · rw [if_neg hm, if_neg (fun hv => by
      obtain ⟨s, h1, h2⟩ := (visN_iff t).1 hv
      apply hm
      rw [← h2]
      exact F.mem_it hi s fun u hu => hs u (by omega))]
theorem hN_bd {n i j : Nat} {rain : Nat → Int} (hr : ∀ u, u < n → 0 ≤ rain u ∧ rain u ≤ 1048576) (hi : i ≤ n) : 0 ≤ hN n to ord rain i j ∧ hN n to ord rain i j ≤ (i * 1048576 : Nat) := by
  refine sumN_bd i fun u hu => ?_
  have := hr u (by omega)
  split <;> omega
theorem FlowN.ga_bd (F : FlowN w h to ord) (hwh : w * h ≤ 16384) {rain : Nat → Int} (hr : ∀ u, u < w * h → 0 ≤ rain u ∧ rain u ≤ 1048576) (m j : Nat) (hm : m ≤ w * h) (hj : j < w * h) : 0 ≤ gaN to ord rain m j ∧ gaN to ord rain m j ≤ 2305843009213693952 := by
  rw [F.ga_sum rain m hm j hj]
  have := sumN_bd (f := fun i => if memN to ord m i j = true then rain i else 0) (B := 1048576) (w * h) fun u hu => by
    have := hr u hu
    split <;> omega
  have hb : w * h * 1048576 ≤ 16384 * 1048576 := Nat.mul_le_mul_right _ hwh
  omega
end
set_option maxHeartbeats 4000000 in
theorem gatherOf_any (G : List (Nat × Value)) (fl : List Int × List Int × List Int) {w h : Nat} {to : Nat → Nat} {ord : List Nat} (F : FlowN w h to ord) (hwh : w * h ≤ 16384) (hf : fl.2.1 = lst (w * h) (fun i => ((to i : Nat) : Int))) (rain : Nat → Int) (hr : ∀ u, u < w * h → 0 ≤ rain u ∧ rain u ≤ 1048576) (K : AV → List AO → Prop) (hK : K (.ref 0 0 (w * h)) [.row int (lst (w * h) (gaN to ord rain (w * h)))]) :
    ACall Tryd.prog G 28 [.fz FT fl, .fz (.list int) (lst (w * h) rain)] [] K := by
  obtain ⟨n, hn⟩ : ∃ n, n = w * h := ⟨_, rfl⟩
  have eK : lst (w * h) (gaN to ord rain (w * h)) = lst (w * h) (hN (w * h) to ord rain (w * h)) := lst_congr fun j hj => F.ga_sum rain (w * h) (Nat.le_refl _) j hj
  rw [eK] at hK
  have hbd : ∀ i j, i ≤ w * h → 0 ≤ hN (w * h) to ord rain i j ∧ hN (w * h) to ord rain i j ≤ (i * 1048576 : Nat) := fun i j hi => hN_bd hr hi
  have hlt : ∀ i t, i < w * h → itF to t i < w * h := fun i t hi => F.it_lt hi t
  have hnew : ∀ i t, i < w * h → (∀ s, s < t + 1 → to (itF to s i) ≠ itF to s i) → visN to t i (itF to (t + 1) i) = false := fun i t hi hs => F.vis_new hi hs
  have hend : ∀ i t, i < w * h → (∀ s, s < t → to (itF to s i) ≠ itF to s i) → to (itF to t i) = itF to t i → lst (w * h) (pN (w * h) to ord rain i t) = lst (w * h) (hN (w * h) to ord rain (i + 1)) := fun i t hi hs he => lst_congr fun j _ => F.p_end rain hi hs he
  have hpos : ∀ c, c < w * h → to c ≠ c → ord.idxOf (to c) < ord.idxOf c := F.pos
  have hto := F.lt
  rw [← hn] at hwh hf hr hK hbd hlt hnew hend hpos hto ⊢
  have hlen : fl.2.1.length = n := by rw [hf]; exact lst_len _ _
  have hrl := lst_len n rain
  let bF : AO := .box [.fz (.list int) fl.1, .fz (.list int) fl.2.1, .fz (.list int) fl.2.2]
  refine acall_mk (E := envAt G 55 0) (envOk _ _ _) Tryd.func28 rfl rfl rfl rfl rfl ?_
  (repeat' (first | exact trivial | exact fun h => h | refine And.intro ?_ ?_ | (intro hb; first | (simp at hb; done) | (simp at hb) | skip) | omega | exact rfl | exact Nat.le_refl _ | (show _ + 1 ≤ 4294967296; omega) | (dsimp only; omega) | (show (_ : Int) ≤ (_ : Int); omega) | (show _ < List.length _; simp only [List.length_set, List.length_append, List.length_take]; omega) | (show wantB _ _ = true; simp; done) | (show wantB _ _ = true; simp; omega) | (show (_ : Bool) = _; simp_all; done) | (exfalso; omega) | fail))
  refine ⟨Nat, fun i => ⟨[(1, .fz (.list int) (lst n rain)), (2, .ptr 0 0), (5, .ref 1 0 n), (6, .fz int i)], [bF, .row int (lst n (hN n to ord rain i))]⟩, fun i => i ≤ n, fun i => n - i, 0, Nat.zero_le _, Ent.sub ?_ ?_, ?_⟩
  · (repeat' (first | exact rfl | refine cons_eq ?_ ?_))
    rw [hrl]
    show AO.row int (List.replicate n 0) = _
    rw [lst_zero]
    exact row_lst fun j _ => rfl
  · (repeat' (first | exact trivial | exact rfl | refine And.intro ?_ ?_))
    exact congrArg (AV.ref 1 0) hrl
  intro i hi
  have hH := lst_len n (hN n to ord rain i)
  by_cases hin : i < n
  · have hri := hr i hin
    have b1 := hbd i i hi
    have q1 : List.getD (lst n (hN n to ord rain i)) (0 + Int.toNat (i : Int)) int.dft = hN n to ord rain i i := by rw [Nat.zero_add, Int.toNat_natCast]; exact lst_at _ hin
    have q2 : List.getD (lst n rain) (Int.toNat (i : Int)) int.dft = rain i := by rw [Int.toNat_natCast]; exact lst_at _ hin
    have hib : i * 1048576 ≤ 16384 * 1048576 := Nat.mul_le_mul_right _ (by omega)
    have hgt : ∀ c, c < n → List.getD fl.2.1 (Int.toNat (c : Int)) int.dft = ((to c : Nat) : Int) := fun c hc => by rw [hf]; exact lst_at (fun i => ((to i : Nat) : Int)) hc
    have hgt' : ∀ c, c < n → fl.2.1[c]?.getD int.dft = ((to c : Nat) : Int) := fun c hc => by rw [hf]; exact lst_get (fun i => ((to i : Nat) : Int)) hc
    (repeat' (first | exact trivial | exact fun h => h | refine And.intro ?_ ?_ | (intro hb; first | (simp at hb; done) | (simp at hb) | skip) | omega | exact rfl | exact Nat.le_refl _ | (show _ + 1 ≤ 4294967296; omega) | (dsimp only; omega) | (show (_ : Int) ≤ (_ : Int); omega) | (show _ < List.length _; simp only [List.length_set, List.length_append, List.length_take]; omega) | (show wantB _ _ = true; simp; done) | (show wantB _ _ = true; simp; omega) | (show (_ : Bool) = _; simp_all; done) | (exfalso; omega) | refine aRegion_auto (by decide +kernel) ?_ | fail))
    (apply exEff; focus (repeat' (first | exact ⟨rfl, rfl⟩ | exact trivial | refine And.intro ?_ ?_ | omega | exact Nat.le_refl _ | (show _ + 1 ≤ 4294967296; omega))))
    (repeat' (first | exact trivial | exact fun h => h | refine And.intro ?_ ?_ | (intro hb; first | (simp at hb; done) | (simp at hb) | skip) | omega | exact rfl | exact Nat.le_refl _ | (show _ + 1 ≤ 4294967296; omega) | (dsimp only; omega) | (show (_ : Int) ≤ (_ : Int); omega) | (show _ < List.length _; simp only [List.length_set, List.length_append, List.length_take]; omega) | (show wantB _ _ = true; simp; done) | (show wantB _ _ = true; simp; omega) | (show (_ : Bool) = _; simp_all; done) | (exfalso; omega) | refine aRegion_auto (by decide +kernel) ?_ | fail))
    refine ⟨Nat, fun t => ⟨[(1, .fz (.list int) (lst n rain)), (2, .ptr 0 0), (5, .ref 1 0 n), (6, .fz int i), (7, .fz int (itF to t i))], [bF, .row int (lst n (pN n to ord rain i t))]⟩, fun t => ∀ s, s < t → to (itF to s i) ≠ itF to s i, fun t => ord.idxOf (itF to t i), 0, (fun s hs => absurd hs (Nat.not_lt_zero s)), Ent.sub ?_ ?_, ?_⟩
    · (repeat' (first | exact rfl | refine cons_eq ?_ ?_))
      refine row_set1 (k := i) (f := hN n to ord rain i) (g := pN n to ord rain i 0) (hN n to ord rain i i + rain i) ?_ fun j hj => ?_
      · show List.getD (lst n (hN n to ord rain i)) (0 + Int.toNat (i : Int)) int.dft + List.getD (lst n rain) (Int.toNat (i : Int)) int.dft = _
        rw [q1, q2]
      · show _ = hN n to ord rain i j + (if (j == i) = true then rain i else 0)
        by_cases e : j = i
        · subst e; simp
        · rw [if_neg e, if_neg (by simpa using e)]; omega
    · (repeat' (first | exact trivial | exact rfl | refine And.intro ?_ ?_))
    intro t hs
    have hc := hlt i t hin
    have hP := lst_len n (pN n to ord rain i t)
    have g1 := hgt' _ hc
    have g1' := hgt _ hc
    by_cases he : to (itF to t i) = itF to t i
    · have hE := hend i t hin hs he
      (repeat' (first | exact trivial | exact fun h => h | refine And.intro ?_ ?_ | (intro hb; first | (simp at hb; done) | (simp at hb) | skip) | omega | exact rfl | exact Nat.le_refl _ | (show _ + 1 ≤ 4294967296; omega) | (dsimp only; omega) | (show (_ : Int) ≤ (_ : Int); omega) | (show _ < List.length _; simp only [List.length_set, List.length_append, List.length_take]; omega) | (show wantB _ _ = true; simp; done) | (show wantB _ _ = true; simp; omega) | (show (_ : Bool) = _; simp_all; done) | (exfalso; omega) | refine aRegion_auto (by decide +kernel) ?_ | fail))
      refine ⟨i + 1, by show i + 1 ≤ n; omega, by show n - (i + 1) < n - i; omega, Ent.sub ?_ ?_⟩
      · show [bF, AO.row int (lst n (pN n to ord rain i t))] = [bF, AO.row int (lst n (hN n to ord rain (i + 1)))]
        rw [hE]
      · (repeat' (first | exact trivial | exact rfl | refine And.intro ?_ ?_))
    · have ht := hto _ hc
      have hs' : ∀ s, s < t + 1 → to (itF to s i) ≠ itF to s i := fun s h1 => by
        by_cases e : s = t
        · subst e; exact he
        · exact hs s (by omega)
      have hv := hnew i t hin hs'
      have b3 := hbd i (to (itF to t i)) hi
      have e3 : pN n to ord rain i t (to (itF to t i)) = hN n to ord rain i (to (itF to t i)) := by
        show hN n to ord rain i _ + (if visN to t i (to (itF to t i)) = true then rain i else 0) = _
        rw [if_neg (by rw [show visN to t i (to (itF to t i)) = false from hv]; simp)]; omega
      have q3 : List.getD (lst n (pN n to ord rain i t)) (0 + Int.toNat (List.getD fl.2.1 (Int.toNat ((itF to t i : Nat) : Int)) int.dft)) int.dft = pN n to ord rain i t (to (itF to t i)) := by
        rw [g1', Nat.zero_add, Int.toNat_natCast]; exact lst_at _ ht
      have hd := hpos _ hc he
      (repeat' (first | exact trivial | exact fun h => h | refine And.intro ?_ ?_ | (intro hb; first | (simp at hb; done) | (simp at hb) | skip) | omega | exact rfl | exact Nat.le_refl _ | (show _ + 1 ≤ 4294967296; omega) | (dsimp only; omega) | (show (_ : Int) ≤ (_ : Int); omega) | (show _ < List.length _; simp only [List.length_set, List.length_append, List.length_take]; omega) | (show wantB _ _ = true; simp; done) | (show wantB _ _ = true; simp; omega) | (show (_ : Bool) = _; simp_all; done) | (exfalso; omega) | refine aRegion_auto (by decide +kernel) ?_ | fail))
      (apply exEff; focus (repeat' (first | exact ⟨rfl, rfl⟩ | exact trivial | refine And.intro ?_ ?_ | omega | exact Nat.le_refl _ | (show _ + 1 ≤ 4294967296; omega))))
      (repeat' (first | exact trivial | exact fun h => h | refine And.intro ?_ ?_ | (intro hb; first | (simp at hb; done) | (simp at hb) | skip) | omega | exact rfl | exact Nat.le_refl _ | (show _ + 1 ≤ 4294967296; omega) | (dsimp only; omega) | (show (_ : Int) ≤ (_ : Int); omega) | (show _ < List.length _; simp only [List.length_set, List.length_append, List.length_take]; omega) | (show wantB _ _ = true; simp; done) | (show wantB _ _ = true; simp; omega) | (show (_ : Bool) = _; simp_all; done) | (exfalso; omega) | refine aRegion_auto (by decide +kernel) ?_ | fail))
      refine ⟨t + 1, hs', hd, Ent.sub ?_ ?_⟩
      · show [bF, AO.row int (List.set (lst n (pN n to ord rain i t)) (0 + Int.toNat (List.getD fl.2.1 (Int.toNat ((itF to t i : Nat) : Int)) int.dft)) _)] = [bF, AO.row int (lst n (pN n to ord rain i (t + 1)))]
        (repeat' (first | exact rfl | refine cons_eq ?_ ?_))
        rw [g1']
        refine row_set1 (k := to (itF to t i)) (f := pN n to ord rain i t) (g := pN n to ord rain i (t + 1)) (pN n to ord rain i t (to (itF to t i)) + rain i) ?_ fun j hj => ?_
        · have q3' := q3
          rw [g1'] at q3'
          show List.getD (lst n (pN n to ord rain i t)) (0 + Int.toNat ((to (itF to t i) : Nat) : Int)) int.dft + List.getD (lst n rain) (Int.toNat (i : Int)) int.dft = _
          rw [q3', q2]
        · show _ = hN n to ord rain i j + (if (visN to t i j || j == to (itF to t i)) = true then rain i else 0)
          by_cases e : j = to (itF to t i)
          · subst e; rw [if_pos rfl, e3]; simp
          · rw [if_neg e]
            show hN n to ord rain i j + _ = _
            have : (j == to (itF to t i)) = false := by simpa using e
            rw [this, Bool.or_false]
      · (repeat' (first | exact trivial | exact rfl | refine And.intro ?_ ?_))
        exact congrArg (AV.fz int) g1'
  · have hin : i = n := by omega
    subst hin
    (repeat' (first | exact trivial | exact fun h => h | refine And.intro ?_ ?_ | (intro hb; first | (simp at hb; done) | (simp at hb) | skip) | omega | exact rfl | exact Nat.le_refl _ | (show _ + 1 ≤ 4294967296; omega) | (dsimp only; omega) | (show (_ : Int) ≤ (_ : Int); omega) | (show _ < List.length _; simp only [List.length_set, List.length_append, List.length_take]; omega) | (show wantB _ _ = true; simp; done) | (show wantB _ _ = true; simp; omega) | (show (_ : Bool) = _; simp_all; done) | (exfalso; omega) | fail))
    refine ⟨_, _, REnt.ren [1] rfl ?_ ?_, hK⟩
    · (repeat' (first | exact trivial | exact rfl | refine And.intro ?_ ?_))
    · (repeat' (first | exact trivial | exact rfl | refine And.intro ?_ ?_))
end Go.Proofs.YtepkknjncpbahaaDoor
/-
  DrainFloods: the walk.
-/
namespace Go.Proofs.YtepkknjncpbahaaDoor
open Go Go.Ab
set_option maxRecDepth 100000
theorem small80_any (G : List (Nat × Value)) (a : Ras) (K : AV → List AO → Prop) (hK : K (.fz .bool (decide (a.2.2.length ≤ 80))) []) : ACall Tryd.prog G 10 [.fptr RasT a] [] K := by
  refine acall_mk (E := envAt G 13 0) (envOk _ _ _) Tryd.func10 rfl rfl rfl rfl rfl ?_
  (repeat' (first | exact trivial | exact fun h => h | refine And.intro ?_ ?_ | (intro hb; first | (simp at hb; done) | (simp at hb) | skip) | omega | exact rfl | exact Nat.le_refl _ | (show _ + 1 ≤ 4294967296; omega) | (dsimp only; omega) | (show (_ : Int) ≤ (_ : Int); omega) | (show _ < List.length _; simp only [List.length_set, List.length_append, List.length_take]; omega) | (show wantB _ _ = true; simp; done) | (show wantB _ _ = true; simp; omega) | (show (_ : Bool) = _; simp_all; done) | (exfalso; omega) | refine aRegion_auto (by decide +kernel) ?_ | refine ⟨_, _, REnt.drop ⟨rfl, rfl⟩, ?_⟩ | fail))
  exact kbl hK (by simp; omega)
theorem small80_nil (G : List (Nat × Value)) (K : AV → List AO → Prop) (hK : K (.fz .bool false) []) : ACall Tryd.prog G 10 [.fz .raw (.pointer none)] [] K := by
  refine acall_mk (E := envAt G 13 0) (envOk _ _ _) Tryd.func10 rfl rfl rfl rfl rfl ?_
  (repeat' (first | exact trivial | exact fun h => h | refine And.intro ?_ ?_ | (intro hb; first | (simp at hb; done) | (simp at hb) | skip) | omega | exact rfl | exact Nat.le_refl _ | (show _ + 1 ≤ 4294967296; omega) | (dsimp only; omega) | (show (_ : Int) ≤ (_ : Int); omega) | (show _ < List.length _; simp only [List.length_set, List.length_append, List.length_take]; omega) | (show wantB _ _ = true; simp; done) | (show wantB _ _ = true; simp; omega) | (show (_ : Bool) = _; simp_all; done) | (exfalso; omega) | refine aRegion_auto (by decide +kernel) ?_ | refine ⟨_, _, REnt.drop ⟨rfl, rfl⟩, ?_⟩ | fail))
  exact hK
/-- once reached, where it flows stays -/
theorem to_stays {w h : Nat} {L : Nat → Int} (hw : 0 < w) {i t : Nat} : ∀ k, k ≤ w * h → ∀ j, j ≤ k → (flN w h L j).st i ≠ 0 → (flN w h L j).to i = t → (flN w h L k).st i ≠ 0 ∧ (flN w h L k).to i = t
  | 0, _, j, hj, h1, h2 => by
    obtain rfl : j = 0 := by omega
    exact ⟨h1, h2⟩
  | k + 1, hk, j, hj, h1, h2 => by
    by_cases e : j = k + 1
    · subst e; exact ⟨h1, h2⟩
    · obtain ⟨i1, i2⟩ := to_stays hw k (by omega) j (by omega) h1 h2
      obtain ⟨b, _, _, hb⟩ := @flN_best w h L hw k (by omega)
      rw [hb]
      constructor
      · show (if i = b then 2 else if touchN w b i ∧ (flN w h L k).st i = 0 then 1 else (flN w h L k).st i) ≠ 0
        split
        · omega
        · rw [if_neg (fun h => i1 h.2)]; exact i1
      · show (if touchN w b i ∧ (flN w h L k).st i = 0 then b else (flN w h L k).to i) = t
        rw [if_neg (fun h => i1 h.2)]; exact i2
def a9 : Ras := (3, 3, [9, 9, 9, 9, 5, 1, 9, 9, 9])
theorem a9_ok : rerr a9 = 0 := by decide
theorem a9_4 : (flP a9).2.1.getD 4 0 = 0 ∧ (flP a9).2.1.getD 0 0 = 8 ∧ (flP a9).2.1.length = 9 := by
  have e : flP a9 = fResP 3 3 a9 := by unfold flP; rw [if_pos a9_ok]; rfl
  rw [e]
  have h4 : (flD 3 3 (hts a9)).to 4 = 5 := (to_stays (w := 3) (h := 3) (L := hts a9) (by omega) (i := 4) (t := 5) 9 (by omega) 1 (by omega) (by decide +kernel) (by decide +kernel)).2
  have h0 : (flD 3 3 (hts a9)).to 0 = 0 := (to_stays (w := 3) (h := 3) (L := hts a9) (by omega) (i := 0) (t := 0) 9 (by omega) 0 (by omega) (by decide +kernel) (by decide +kernel)).2
  unfold fResP
  refine ⟨?_, ?_, ?_⟩
  · show (lst 9 _).getD 4 0 = 0
    rw [lst_at _ (by omega), h4]; decide
  · show (lst 9 _).getD 0 0 = 8
    rw [lst_at _ (by omega)]; first | (rw [h0]; decide) | decide
  · show (lst 9 _).length = 9
    rw [lst_len]
theorem drains_any (E : Errs) (K : AV → List AO → Prop) (hK : K (.fz .bool true) []) : ACall Tryd.prog (G8 E) 9 [] [] K := by
  obtain ⟨h4, h0, hl⟩ := a9_4
  refine acall_mk (E := envAt (G8 E) 28 0) (envOk _ _ _) Tryd.func9 rfl rfl rfl rfl rfl ?_
  (repeat' (first | exact trivial | exact fun h => h | refine And.intro ?_ ?_ | (intro hb; first | (simp at hb; done) | (simp at hb) | skip) | omega | exact rfl | exact Nat.le_refl _ | (show _ + 1 ≤ 4294967296; omega) | (dsimp only; omega) | (show (_ : Int) ≤ (_ : Int); omega) | (show _ < List.length _; simp only [List.length_set, List.length_append, List.length_take]; omega) | (show wantB _ _ = true; simp; done) | (show wantB _ _ = true; simp; omega) | (show (_ : Bool) = _; simp_all; done) | (exfalso; omega) | fail))
  refine acall_conv [.dat RasT] _ _ _ rfl ?_ (acall_frame0 rfl (flow_one E a9 (by decide) _ ?_))
  · (repeat' (first | exact trivial | refine And.intro ?_ ?_ | (show _ ≤ _; omega) | (show _ ≤ _; simp; done)))
  rw [a9_ok]
  have h4' : List.getD (flP a9).2.1 (Int.toNat 4) int.dft = 0 := h4
  have h0' : List.getD (flP a9).2.1 (Int.toNat 0) int.dft = 8 := h0
  generalize (flP a9).2.1 = l at *
  (repeat' (first | exact trivial | exact fun h => h | refine And.intro ?_ ?_ | (intro hb; first | (simp at hb; done) | (simp at hb) | skip) | omega | exact rfl | exact Nat.le_refl _ | (show _ + 1 ≤ 4294967296; omega) | (dsimp only; omega) | (show (_ : Int) ≤ (_ : Int); omega) | (show _ < List.length _; simp only [List.length_set, List.length_append, List.length_take]; omega) | (show wantB _ _ = true; simp; done) | (show wantB _ _ = true; simp; omega) | (show (_ : Bool) = _; simp_all; done) | (exfalso; omega) | fail))
  refine ⟨_, _, REnt.drop ⟨rfl, rfl⟩, ?_⟩
  refine kbl hK ?_
  rw [h4', h0', hl]
  rfl
set_option maxHeartbeats 4000000 in
theorem drainFloods_some {E : Errs} (hE : (EL E).Nodup) (a : Ras) (hla : a.2.2.length ≤ 9223372036854775807) (K : AV → List AO → Prop) (hK : K (.fz .bool true) []) :
    ACall Tryd.prog (G8 E) 4 [.fptr RasT a] [] K := by
  refine acall_mk (E := envAt (G8 E) 147 0) (envOk _ _ _) Tryd.func4 rfl rfl rfl rfl rfl ?_
  (repeat' (first | exact trivial | exact fun h => h | refine And.intro ?_ ?_ | (intro hb; first | (simp at hb; done) | (simp at hb) | skip) | omega | exact rfl | exact Nat.le_refl _ | (show _ + 1 ≤ 4294967296; omega) | (dsimp only; omega) | (show (_ : Int) ≤ (_ : Int); omega) | (show _ < List.length _; simp only [List.length_set, List.length_append, List.length_take]; omega) | (show wantB _ _ = true; simp; done) | (show wantB _ _ = true; simp; omega) | (show (_ : Bool) = _; simp_all; done) | (exfalso; omega) | refine aRegion_auto (by decide +kernel) ?_ | refine ⟨_, _, REnt.drop ⟨rfl, rfl⟩, ?_⟩ | fail))
  refine acall_frame0 rfl (drains_any E _ ?_)
  (repeat' (first | exact trivial | exact fun h => h | refine And.intro ?_ ?_ | (intro hb; first | (simp at hb; done) | (simp at hb) | skip) | omega | exact rfl | exact Nat.le_refl _ | (show _ + 1 ≤ 4294967296; omega) | (dsimp only; omega) | (show (_ : Int) ≤ (_ : Int); omega) | (show _ < List.length _; simp only [List.length_set, List.length_append, List.length_take]; omega) | (show wantB _ _ = true; simp; done) | (show wantB _ _ = true; simp; omega) | (show (_ : Bool) = _; simp_all; done) | (exfalso; omega) | refine aRegion_auto (by decide +kernel) ?_ | refine ⟨_, _, REnt.drop ⟨rfl, rfl⟩, ?_⟩ | fail))
  refine acall_frame0 rfl (small80_any _ a _ ?_)
  (repeat' (first | exact trivial | exact fun h => h | refine And.intro ?_ ?_ | (intro hb; first | (simp at hb; done) | (simp at hb) | skip) | omega | exact rfl | exact Nat.le_refl _ | (show _ + 1 ≤ 4294967296; omega) | (dsimp only; omega) | (show (_ : Int) ≤ (_ : Int); omega) | (show _ < List.length _; simp only [List.length_set, List.length_append, List.length_take]; omega) | (show wantB _ _ = true; simp; done) | (show wantB _ _ = true; simp; omega) | (show (_ : Bool) = _; simp_all; done) | (exfalso; omega) | refine aRegion_auto (by decide +kernel) ?_ | refine ⟨_, _, REnt.drop ⟨rfl, rfl⟩, ?_⟩ | fail))
  · exact hK
  have hl : a.2.2.length ≤ 80 := by omega
  refine acall_conv [.dat RasT] _ _ _ rfl trivial (acall_frame0 rfl (fill_one E a (by omega) _ ?_))
  (repeat' (first | exact trivial | exact fun h => h | refine And.intro ?_ ?_ | (intro hb; first | (simp at hb; done) | (simp at hb) | skip) | omega | exact rfl | exact Nat.le_refl _ | (show _ + 1 ≤ 4294967296; omega) | (dsimp only; omega) | (show (_ : Int) ≤ (_ : Int); omega) | (show _ < List.length _; simp only [List.length_set, List.length_append, List.length_take]; omega) | (show wantB _ _ = true; simp; done) | (show wantB _ _ = true; simp; omega) | (show (_ : Bool) = _; simp_all; done) | (exfalso; omega) | refine aRegion_auto (by decide +kernel) ?_ | refine ⟨_, _, REnt.drop ⟨rfl, rfl⟩, ?_⟩ | fail))
  refine acall_frame0 rfl (flow_one E a (by omega) _ ?_)
  (repeat' (first | exact trivial | exact fun h => h | refine And.intro ?_ ?_ | (intro hb; first | (simp at hb; done) | (simp at hb) | skip) | omega | exact rfl | exact Nat.le_refl _ | (show _ + 1 ≤ 4294967296; omega) | (dsimp only; omega) | (show (_ : Int) ≤ (_ : Int); omega) | (show _ < List.length _; simp only [List.length_set, List.length_append, List.length_take]; omega) | (show wantB _ _ = true; simp; done) | (show wantB _ _ = true; simp; omega) | (show (_ : Bool) = _; simp_all; done) | (exfalso; omega) | refine aRegion_auto (by decide +kernel) ?_ | refine ⟨_, _, REnt.drop ⟨rfl, rfl⟩, ?_⟩ | fail))
  refine acall_frame0 rfl (order_one E a (by omega) _ ?_)
  (repeat' (first | exact trivial | exact fun h => h | refine And.intro ?_ ?_ | (intro hb; first | (simp at hb; done) | (simp at hb) | skip) | omega | exact rfl | exact Nat.le_refl _ | (show _ + 1 ≤ 4294967296; omega) | (dsimp only; omega) | (show (_ : Int) ≤ (_ : Int); omega) | (show _ < List.length _; simp only [List.length_set, List.length_append, List.length_take]; omega) | (show wantB _ _ = true; simp; done) | (show wantB _ _ = true; simp; omega) | (show (_ : Bool) = _; simp_all; done) | (exfalso; omega) | refine aRegion_auto (by decide +kernel) ?_ | refine ⟨_, _, REnt.drop ⟨rfl, rfl⟩, ?_⟩ | fail))
  refine acall_frame0 rfl (rasterError_any _ a (by omega) _ ?_)
  (repeat' (first | exact trivial | exact fun h => h | refine And.intro ?_ ?_ | (intro hb; first | (simp at hb; done) | (simp at hb) | skip) | omega | exact rfl | exact Nat.le_refl _ | (show _ + 1 ≤ 4294967296; omega) | (dsimp only; omega) | (show (_ : Int) ≤ (_ : Int); omega) | (show _ < List.length _; simp only [List.length_set, List.length_append, List.length_take]; omega) | (show wantB _ _ = true; simp; done) | (show wantB _ _ = true; simp; omega) | (show (_ : Bool) = _; simp_all; done) | (exfalso; omega) | refine aRegion_auto (by decide +kernel) ?_ | refine ⟨_, _, REnt.drop ⟨rfl, rfl⟩, ?_⟩ | fail))
  · have h4 := rerr_in a
    have hne : rerr a ≠ 0 := by omega
    have e1 : fillQ a = (0, 0, []) := by unfold fillQ; rw [if_neg hne]
    have e2 : flP a = ([], [], []) := by unfold flP; rw [if_neg hne]
    refine acall_frame0 rfl (coded_mercatorlaw4 hE (by omega) (rerr a) _ ?_)
    rw [decide_eq_true rfl, e1, e2]
    (repeat' (first | exact trivial | exact fun h => h | refine And.intro ?_ ?_ | (intro hb; first | (simp at hb; done) | (simp at hb) | skip) | omega | exact rfl | exact Nat.le_refl _ | (show _ + 1 ≤ 4294967296; omega) | (dsimp only; omega) | (show (_ : Int) ≤ (_ : Int); omega) | (show _ < List.length _; simp only [List.length_set, List.length_append, List.length_take]; omega) | (show wantB _ _ = true; simp; done) | (show wantB _ _ = true; simp; omega) | (show (_ : Bool) = _; simp_all; done) | (exfalso; omega) | refine aRegion_auto (by decide +kernel) ?_ | refine ⟨_, _, REnt.drop ⟨rfl, rfl⟩, ?_⟩ | fail))
    refine acall_frame0 rfl (coded_mercatorlaw4 hE (by omega) (rerr a) _ ?_)
    rw [decide_eq_true rfl]
    (repeat' (first | exact trivial | exact fun h => h | refine And.intro ?_ ?_ | (intro hb; first | (simp at hb; done) | (simp at hb) | skip) | omega | exact rfl | exact Nat.le_refl _ | (show _ + 1 ≤ 4294967296; omega) | (dsimp only; omega) | (show (_ : Int) ≤ (_ : Int); omega) | (show _ < List.length _; simp only [List.length_set, List.length_append, List.length_take]; omega) | (show wantB _ _ = true; simp; done) | (show wantB _ _ = true; simp; omega) | (show (_ : Bool) = _; simp_all; done) | (exfalso; omega) | refine aRegion_auto (by decide +kernel) ?_ | refine ⟨_, _, REnt.drop ⟨rfl, rfl⟩, ?_⟩ | fail))
    refine acall_frame0 rfl (coded_mercatorlaw4 hE (by omega) (rerr a) _ ?_)
    rw [decide_eq_true rfl]
    (repeat' (first | exact trivial | exact fun h => h | refine And.intro ?_ ?_ | (intro hb; first | (simp at hb; done) | (simp at hb) | skip) | omega | exact rfl | exact Nat.le_refl _ | (show _ + 1 ≤ 4294967296; omega) | (dsimp only; omega) | (show (_ : Int) ≤ (_ : Int); omega) | (show _ < List.length _; simp only [List.length_set, List.length_append, List.length_take]; omega) | (show wantB _ _ = true; simp; done) | (show wantB _ _ = true; simp; omega) | (show (_ : Bool) = _; simp_all; done) | (exfalso; omega) | refine aRegion_auto (by decide +kernel) ?_ | refine ⟨_, _, REnt.drop ⟨rfl, rfl⟩, ?_⟩ | fail))
    exact hK
  · have hv : rerr a = 0 := by omega
    have R := RasN.mk' hv
    rw [hv]
    (repeat' (first | exact trivial | exact fun h => h | refine And.intro ?_ ?_ | (intro hb; first | (simp at hb; done) | (simp at hb) | skip) | omega | exact rfl | exact Nat.le_refl _ | (show _ + 1 ≤ 4294967296; omega) | (dsimp only; omega) | (show (_ : Int) ≤ (_ : Int); omega) | (show _ < List.length _; simp only [List.length_set, List.length_append, List.length_take]; omega) | (show wantB _ _ = true; simp; done) | (show wantB _ _ = true; simp; omega) | (show (_ : Bool) = _; simp_all; done) | (exfalso; omega) | refine aRegion_auto (by decide +kernel) ?_ | refine ⟨_, _, REnt.drop ⟨rfl, rfl⟩, ?_⟩ | fail))
    refine acall_frame0 rfl (floodOf_any _ a R _ ?_)
    have e2 : flP a = fResP a.1.toNat a.2.1.toNat a := by unfold flP; rw [if_pos hv]
    have e1 : fillQ a = (a.1, a.2.1, (fRes a.1.toNat a.2.1.toNat a).1) := by unfold fillQ; rw [if_pos hv, e2]; rfl
    have e3 : (fResP a.1.toNat a.2.1.toNat a).2.2 = (fRes a.1.toNat a.2.1.toNat a).2.2 := rfl
    obtain ⟨n, hn⟩ : ∃ n, n = a.1.toNat * a.2.1.toNat := ⟨_, rfl⟩
    have hln := R.len
    rw [← hn] at hln
    have l1 : (fRes a.1.toNat a.2.1.toNat a).1.length = n := by rw [hn]; exact lst_len _ _
    have l2 : (fRes a.1.toNat a.2.1.toNat a).2.2.length = n := by
      rw [hn]; show (natL _).length = _
      rw [natL_len]; exact (flN_ok _ _ _ R.w0 _ (Nat.le_refl _)).2
    have l3 : (fResP a.1.toNat a.2.1.toNat a).2.1.length = n := by rw [hn]; exact lst_len _ _
    have l4 : (fRes a.1.toNat a.2.1.toNat a).2.1.length = n := by rw [hn]; exact lst_len _ _
    have g1 : ∀ i, i < n → List.getD (fResP a.1.toNat a.2.1.toNat a).2.1 i 0 = wayN a.1.toNat i ((flD a.1.toNat a.2.1.toNat (hts a)).to i) := fun i hi => lst_at _ (by omega)
    have g2 : ∀ i, i < n → List.getD (fRes a.1.toNat a.2.1.toNat a).2.1 i 0 = (((flD a.1.toNat a.2.1.toNat (hts a)).to i : Nat) : Int) := fun i hi => lst_at (fun i => (((flD a.1.toNat a.2.1.toNat (hts a)).to i : Nat) : Int)) (by omega)
    have g3 : ∀ i, i < n → (flD a.1.toNat a.2.1.toNat (hts a)).to i < n := fun i hi => by
      obtain ⟨I, _⟩ := flN_ok a.1.toNat a.2.1.toNat (hts a) R.w0 _ (Nat.le_refl _)
      have h2 := flD_all a.1.toNat a.2.1.toNat (hts a) R.w0 i (by omega)
      rcases I.src i (by omega) (by unfold flD at h2; omega) with ⟨_, h, _⟩ | ⟨_, _, h, _⟩
      · unfold flD; omega
      · unfold flD; omega
    rw [e1, e2, e3]
    generalize hFR : fRes a.1.toNat a.2.1.toNat a = FR at *
    generalize hFP : (fResP a.1.toNat a.2.1.toNat a).2.1 = FP at *
    (repeat' (first | exact trivial | exact fun h => h | refine And.intro ?_ ?_ | (intro hb; first | (simp at hb; done) | (simp at hb) | skip) | omega | exact rfl | exact Nat.le_refl _ | (show _ + 1 ≤ 4294967296; omega) | (dsimp only; omega) | (show (_ : Int) ≤ (_ : Int); omega) | (show _ < List.length _; simp only [List.length_set, List.length_append, List.length_take]; omega) | (show wantB _ _ = true; simp; done) | (show wantB _ _ = true; simp; omega) | (show (_ : Bool) = _; simp_all; done) | (exfalso; omega) | refine aRegion_auto (by decide +kernel) ?_ | refine ⟨_, _, REnt.drop ⟨rfl, rfl⟩, ?_⟩ | fail))
    refine acall_frame0 rfl (sameInts_mercatorlaw4 _ FR.1 FR.1 (by omega) _ ?_)
    rw [decide_eq_true rfl]
    (repeat' (first | exact trivial | exact fun h => h | refine And.intro ?_ ?_ | (intro hb; first | (simp at hb; done) | (simp at hb) | skip) | omega | exact rfl | exact Nat.le_refl _ | (show _ + 1 ≤ 4294967296; omega) | (dsimp only; omega) | (show (_ : Int) ≤ (_ : Int); omega) | (show _ < List.length _; simp only [List.length_set, List.length_append, List.length_take]; omega) | (show wantB _ _ = true; simp; done) | (show wantB _ _ = true; simp; omega) | (show (_ : Bool) = _; simp_all; done) | (exfalso; omega) | refine aRegion_auto (by decide +kernel) ?_ | refine ⟨_, _, REnt.drop ⟨rfl, rfl⟩, ?_⟩ | fail))
    refine acall_frame0 rfl (sameInts_mercatorlaw4 _ FR.2.2 FR.2.2 (by omega) _ ?_)
    rw [decide_eq_true rfl]
    (repeat' (first | exact trivial | exact fun h => h | refine And.intro ?_ ?_ | (intro hb; first | (simp at hb; done) | (simp at hb) | skip) | omega | exact rfl | exact Nat.le_refl _ | (show _ + 1 ≤ 4294967296; omega) | (dsimp only; omega) | (show (_ : Int) ≤ (_ : Int); omega) | (show _ < List.length _; simp only [List.length_set, List.length_append, List.length_take]; omega) | (show wantB _ _ = true; simp; done) | (show wantB _ _ = true; simp; omega) | (show (_ : Bool) = _; simp_all; done) | (exfalso; omega) | refine aRegion_auto (by decide +kernel) ?_ | refine ⟨_, _, REnt.drop ⟨rfl, rfl⟩, ?_⟩ | fail))
    refine ⟨Nat, fun k => ⟨[(0, .fptr RasT a), (7, .fz (.list int) FP), (12, .ptr 1 0), (15, .fz int k)], [.box [.fz int a.1, .fz int a.2.1, .fz (.list int) FR.1], .box [.fz (.list int) FR.1, .fz (.list int) FR.2.1, .fz (.list int) FR.2.2]]⟩, fun k => k ≤ n, fun k => n - k, 0, Nat.zero_le _, Ent.sub rfl ?_, ?_⟩
    · (repeat' (first | exact trivial | exact rfl | refine And.intro ?_ ?_))
    intro k hk
    by_cases hkn : k < n
    · have q1 : List.getD FR.2.1 (Int.toNat (k : Int)) int.dft = (((flD a.1.toNat a.2.1.toNat (hts a)).to k : Nat) : Int) := g2 k hkn
      have q2 : List.getD FP (Int.toNat (k : Int)) int.dft = wayN a.1.toNat k ((flD a.1.toNat a.2.1.toNat (hts a)).to k) := g1 k hkn
      (repeat' (first | exact trivial | exact fun h => h | refine And.intro ?_ ?_ | (intro hb; first | (simp at hb; done) | (simp at hb) | skip) | omega | exact rfl | exact Nat.le_refl _ | (show _ + 1 ≤ 4294967296; omega) | (dsimp only; omega) | (show (_ : Int) ≤ (_ : Int); omega) | (show _ < List.length _; simp only [List.length_set, List.length_append, List.length_take]; omega) | (show wantB _ _ = true; simp; done) | (show wantB _ _ = true; simp; omega) | (show (_ : Bool) = _; simp_all; done) | (exfalso; omega) | refine aRegion_auto (by decide +kernel) ?_ | refine ⟨_, _, REnt.drop ⟨rfl, rfl⟩, ?_⟩ | fail))
      apply exEff
      · refine acall_frame0 rfl (acall_arg (wayOf_any _ a R k ((flD a.1.toNat a.2.1.toNat (hts a)).to k) (by omega) (by have := g3 k hkn; omega) _ ?_) (by rw [← q1]; rfl))
        exact ⟨rfl, rfl⟩
      (repeat' (first | exact trivial | exact fun h => h | refine And.intro ?_ ?_ | (intro hb; first | (simp at hb; done) | (simp at hb) | skip) | omega | exact rfl | exact Nat.le_refl _ | (show _ + 1 ≤ 4294967296; omega) | (dsimp only; omega) | (show (_ : Int) ≤ (_ : Int); omega) | (show _ < List.length _; simp only [List.length_set, List.length_append, List.length_take]; omega) | (show wantB _ _ = true; simp; done) | (show wantB _ _ = true; simp; omega) | (show (_ : Bool) = _; simp_all; done) | (exfalso; omega) | refine aRegion_auto (by decide +kernel) ?_ | refine ⟨_, _, REnt.drop ⟨rfl, rfl⟩, ?_⟩ | fail))
      · exfalso
        apply hb
        have := q2
        simpa using this
      · refine ⟨k + 1, by show k + 1 ≤ n; omega, by show n - (k + 1) < n - k; omega, Ent.sub rfl ?_⟩
        (repeat' (first | exact trivial | exact rfl | refine And.intro ?_ ?_))
    · have hkn : k = n := by omega
      subst hkn
      (repeat' (first | exact trivial | exact fun h => h | refine And.intro ?_ ?_ | (intro hb; first | (simp at hb; done) | (simp at hb) | skip) | omega | exact rfl | exact Nat.le_refl _ | (show _ + 1 ≤ 4294967296; omega) | (dsimp only; omega) | (show (_ : Int) ≤ (_ : Int); omega) | (show _ < List.length _; simp only [List.length_set, List.length_append, List.length_take]; omega) | (show wantB _ _ = true; simp; done) | (show wantB _ _ = true; simp; omega) | (show (_ : Bool) = _; simp_all; done) | (exfalso; omega) | refine aRegion_auto (by decide +kernel) ?_ | refine ⟨_, _, REnt.drop ⟨rfl, rfl⟩, ?_⟩ | fail))
      exact hK
theorem drainFloods_nil {E : Errs} (K : AV → List AO → Prop) (hK : K (.fz .bool true) []) :
    ACall Tryd.prog (G8 E) 4 [.fz .raw (.pointer none)] [] K := by
  refine acall_mk (E := envAt (G8 E) 147 0) (envOk _ _ _) Tryd.func4 rfl rfl rfl rfl rfl ?_
  (repeat' (first | exact trivial | exact fun h => h | refine And.intro ?_ ?_ | (intro hb; first | (simp at hb; done) | (simp at hb) | skip) | omega | exact rfl | exact Nat.le_refl _ | (show _ + 1 ≤ 4294967296; omega) | (dsimp only; omega) | (show (_ : Int) ≤ (_ : Int); omega) | (show _ < List.length _; simp only [List.length_set, List.length_append, List.length_take]; omega) | (show wantB _ _ = true; simp; done) | (show wantB _ _ = true; simp; omega) | (show (_ : Bool) = _; simp_all; done) | (exfalso; omega) | refine aRegion_auto (by decide +kernel) ?_ | refine ⟨_, _, REnt.drop ⟨rfl, rfl⟩, ?_⟩ | fail))
  refine acall_frame0 rfl (drains_any E _ ?_)
  (repeat' (first | exact trivial | exact fun h => h | refine And.intro ?_ ?_ | (intro hb; first | (simp at hb; done) | (simp at hb) | skip) | omega | exact rfl | exact Nat.le_refl _ | (show _ + 1 ≤ 4294967296; omega) | (dsimp only; omega) | (show (_ : Int) ≤ (_ : Int); omega) | (show _ < List.length _; simp only [List.length_set, List.length_append, List.length_take]; omega) | (show wantB _ _ = true; simp; done) | (show wantB _ _ = true; simp; omega) | (show (_ : Bool) = _; simp_all; done) | (exfalso; omega) | refine aRegion_auto (by decide +kernel) ?_ | refine ⟨_, _, REnt.drop ⟨rfl, rfl⟩, ?_⟩ | fail))
  refine acall_frame0 rfl (small80_nil _ _ ?_)
  (repeat' (first | exact trivial | exact fun h => h | refine And.intro ?_ ?_ | (intro hb; first | (simp at hb; done) | (simp at hb) | skip) | omega | exact rfl | exact Nat.le_refl _ | (show _ + 1 ≤ 4294967296; omega) | (dsimp only; omega) | (show (_ : Int) ≤ (_ : Int); omega) | (show _ < List.length _; simp only [List.length_set, List.length_append, List.length_take]; omega) | (show wantB _ _ = true; simp; done) | (show wantB _ _ = true; simp; omega) | (show (_ : Bool) = _; simp_all; done) | (exfalso; omega) | refine aRegion_auto (by decide +kernel) ?_ | refine ⟨_, _, REnt.drop ⟨rfl, rfl⟩, ?_⟩ | fail))
  exact hK
end Go.Proofs.YtepkknjncpbahaaDoor
/-
  Gather, Way: the walks.
-/
namespace Go.Proofs.YtepkknjncpbahaaDoor
open Go Go.Ab
set_option maxRecDepth 100000
def badB (x : Int) : Bool := decide (x < 0) || decide (1048576 < x)
theorem gather1_any (G : List (Nat × Value)) (x : Int) (K : AV → List AO → Prop) (hK : K (.fz .bool (badB x)) []) : ACall Tryd.prog G 39 [.fz int x] [] K := by
  refine acall_mk (E := envAt G 9 0) (envOk _ _ _) Tryd.func39 rfl rfl rfl rfl rfl ?_
  (repeat' (first | exact trivial | exact fun h => h | refine And.intro ?_ ?_ | (intro hb; first | (simp at hb; done) | (simp at hb) | skip) | omega | exact rfl | exact Nat.le_refl _ | (show _ + 1 ≤ 4294967296; omega) | (dsimp only; omega) | (show (_ : Int) ≤ (_ : Int); omega) | (show _ < List.length _; simp only [List.length_set, List.length_append, List.length_take]; omega) | (show wantB _ _ = true; simp; done) | (show wantB _ _ = true; simp; omega) | (show (_ : Bool) = _; simp_all; done) | (exfalso; omega) | refine aRegion_auto (by decide +kernel) ?_ | fail))
  refine ⟨_, _, REnt.drop ⟨rfl, rfl⟩, kbl hK ?_⟩
  unfold badB
  rfl
/-- what the program says of rain -/
def gaE (a : Ras) (rain : List Int) : Nat := if rerr a = 0 then (if rain.length ≠ a.2.2.length ∨ rain.any badB = true then 3 else 0) else rerr a
theorem lst_of (l : List Int) : lst l.length (fun i => l.getD i 0) = l := by
  apply List.ext_getElem
  · exact lst_len _ _
  · intro i h1 h2
    have := lst_get (n := l.length) (fun i => l.getD i 0) h2
    simp only [List.getElem?_eq_getElem h1, Option.getD_some] at this
    rw [this]; simp [h2]
theorem badB_no {x : Int} (h : badB x = false) : 0 ≤ x ∧ x ≤ 1048576 := by
  unfold badB at h
  simp at h
  omega
def gaQ (a : Ras) (rain : List Int) : List Int := if gaE a rain = 0 then lst (a.1.toNat * a.2.1.toNat) (gaN (flD a.1.toNat a.2.1.toNat (hts a)).to (flD a.1.toNat a.2.1.toNat (hts a)).ord (fun i => rain.getD i 0) (a.1.toNat * a.2.1.toNat)) else []
theorem gather_one (E : Errs) (a : Ras) (rain : List Int) (hl : a.2.2.length ≤ 1000000000000) (hrl : rain.length ≤ 1000000000000) (K : AV → List AO → Prop) (hK : K (.tup [.fz (.list int) (gaQ a rain), .fz .raw (er E (gaE a rain))]) []) :
    ACall Tryd.prog (G8 E) 13 [.fz RasT a, .fz (.list int) rain] [] K := by
  by_cases hv : rerr a = 0
  · have R := RasN.mk' hv
    have F := flowN a.1.toNat a.2.1.toNat (hts a) R.w0
    have eF : flP a = fResP a.1.toNat a.2.1.toNat a := by unfold flP; rw [if_pos hv]
    have hln := R.len
    refine acall_mk (E := envAt (G8 E) 31 0) (envOk _ _ _) Tryd.func13 rfl rfl rfl rfl rfl ?_
    (repeat' (first | exact trivial | exact fun h => h | refine And.intro ?_ ?_ | (intro hb; first | (simp at hb; done) | (simp at hb) | skip) | omega | exact rfl | exact Nat.le_refl _ | (show _ + 1 ≤ 4294967296; omega) | (dsimp only; omega) | (show (_ : Int) ≤ (_ : Int); omega) | (show _ < List.length _; simp only [List.length_set, List.length_append, List.length_take]; omega) | (show wantB _ _ = true; simp; done) | (show wantB _ _ = true; simp; omega) | (show (_ : Bool) = _; simp_all; done) | (exfalso; omega) | fail))
    refine acall_conv [.dat RasT] _ _ _ rfl trivial (acall_frame0 rfl (flood_one E a hl _ ?_))
    rw [hv, eF]
    by_cases hlen : rain.length = a.2.2.length
    · (repeat' (first | exact trivial | exact fun h => h | refine And.intro ?_ ?_ | (intro hb; first | (simp at hb; done) | (simp at hb) | skip) | omega | exact rfl | exact Nat.le_refl _ | (show _ + 1 ≤ 4294967296; omega) | (dsimp only; omega) | (show (_ : Int) ≤ (_ : Int); omega) | (show _ < List.length _; simp only [List.length_set, List.length_append, List.length_take]; omega) | (show wantB _ _ = true; simp; done) | (show wantB _ _ = true; simp; omega) | (show (_ : Bool) = _; simp_all; done) | (exfalso; omega) | fail))
      refine acall_frame0 rfl (containsFunc_any _ rain _ badB (gather1_any _) hrl _ ?_)
      cases hany : rain.any badB with
      | true =>
        have e1 : gaE a rain = 3 := by unfold gaE; rw [if_pos hv, if_pos (.inr hany)]
        have e2 : gaQ a rain = [] := by unfold gaQ; rw [e1, if_neg (by omega)]
        rw [e1, e2] at hK
        (repeat' (first | exact trivial | exact fun h => h | refine And.intro ?_ ?_ | (intro hb; first | (simp at hb; done) | (simp at hb) | skip) | omega | exact rfl | exact Nat.le_refl _ | (show _ + 1 ≤ 4294967296; omega) | (dsimp only; omega) | (show (_ : Int) ≤ (_ : Int); omega) | (show _ < List.length _; simp only [List.length_set, List.length_append, List.length_take]; omega) | (show wantB _ _ = true; simp; done) | (show wantB _ _ = true; simp; omega) | (show (_ : Bool) = _; simp_all; done) | (exfalso; omega) | refine aRegion_auto (by decide +kernel) ?_ | fail))
        refine ⟨_, _, (REnt.conv [.dat (.list int), .keep] _ rfl trivial).trans (REnt.drop ⟨rfl, rfl⟩), ?_⟩
        exact hK
      | false =>
        have e1 : gaE a rain = 0 := by unfold gaE; rw [if_pos hv, if_neg (by rw [hany]; simp [hlen])]
        have e2 : gaQ a rain = lst (a.1.toNat * a.2.1.toNat) (gaN (flD a.1.toNat a.2.1.toNat (hts a)).to (flD a.1.toNat a.2.1.toNat (hts a)).ord (fun i => rain.getD i 0) (a.1.toNat * a.2.1.toNat)) := by unfold gaQ; rw [if_pos e1]
        rw [e1, e2] at hK
        have hr : ∀ u, u < a.1.toNat * a.2.1.toNat → 0 ≤ rain.getD u 0 ∧ rain.getD u 0 ≤ 1048576 := fun u hu => by
          refine badB_no ?_
          have hu' : u < rain.length := by omega
          have := List.any_eq_false.1 hany (rain[u]) (List.getElem_mem hu')
          rw [List.getD_eq_getElem?_getD, List.getElem?_eq_getElem hu']
          simpa using this
        have eR : rain = lst (a.1.toNat * a.2.1.toNat) (fun i => rain.getD i 0) := by rw [← hln, ← hlen]; exact (lst_of rain).symm
        (repeat' (first | exact trivial | exact fun h => h | refine And.intro ?_ ?_ | (intro hb; first | (simp at hb; done) | (simp at hb) | skip) | omega | exact rfl | exact Nat.le_refl _ | (show _ + 1 ≤ 4294967296; omega) | (dsimp only; omega) | (show (_ : Int) ≤ (_ : Int); omega) | (show _ < List.length _; simp only [List.length_set, List.length_append, List.length_take]; omega) | (show wantB _ _ = true; simp; done) | (show wantB _ _ = true; simp; omega) | (show (_ : Bool) = _; simp_all; done) | (exfalso; omega) | fail))
        refine acall_conv [.dat RasT, .dat FT, .keep] _ _ _ rfl ?_ (acall_frame0 rfl (acall_arg (gather_any _ a R F (lst (a.1.toNat * a.2.1.toNat) (flD a.1.toNat a.2.1.toNat (hts a)).fill) (fun i => rain.getD i 0) (fun m j hm hj => F.ga_bd R.wh hr m j hm hj) _ ?_) (by rw [← eR]; rfl)))
        · (repeat' (first | exact trivial | refine And.intro ?_ ?_ | (show _ ≤ _; omega) | (show _ ≤ _; simp; done)))
        (repeat' (first | exact trivial | exact fun h => h | refine And.intro ?_ ?_ | (intro hb; first | (simp at hb; done) | (simp at hb) | skip) | omega | exact rfl | exact Nat.le_refl _ | (show _ + 1 ≤ 4294967296; omega) | (dsimp only; omega) | (show (_ : Int) ≤ (_ : Int); omega) | (show _ < List.length _; simp only [List.length_set, List.length_append, List.length_take]; omega) | (show wantB _ _ = true; simp; done) | (show wantB _ _ = true; simp; omega) | (show (_ : Bool) = _; simp_all; done) | (exfalso; omega) | fail))
        refine ⟨_, _, (REnt.conv [.dat (.list int), .keep] _ rfl ?_).trans (REnt.drop ⟨rfl, rfl⟩), ?_⟩
        · show 0 + _ ≤ _
          rw [Nat.zero_add, lst_len]; exact Nat.le_refl _
        · refine (congrArg (fun l => K (.tup [.fz (.list int) l, .fz .raw .nilIface]) []) ?_).mp hK
          rw [List.drop_zero, List.take_of_length_le (by rw [lst_len]; exact Nat.le_refl _)]
    · have e1 : gaE a rain = 3 := by unfold gaE; rw [if_pos hv, if_pos (.inl hlen)]
      have e2 : gaQ a rain = [] := by unfold gaQ; rw [e1, if_neg (by omega)]
      rw [e1, e2] at hK
      (repeat' (first | exact trivial | exact fun h => h | refine And.intro ?_ ?_ | (intro hb; first | (simp at hb; done) | (simp at hb) | skip) | omega | exact rfl | exact Nat.le_refl _ | (show _ + 1 ≤ 4294967296; omega) | (dsimp only; omega) | (show (_ : Int) ≤ (_ : Int); omega) | (show _ < List.length _; simp only [List.length_set, List.length_append, List.length_take]; omega) | (show wantB _ _ = true; simp; done) | (show wantB _ _ = true; simp; omega) | (show (_ : Bool) = _; simp_all; done) | (exfalso; omega) | refine aRegion_auto (by decide +kernel) ?_ | fail))
      refine ⟨_, _, (REnt.conv [.dat (.list int), .keep] _ rfl trivial).trans (REnt.drop ⟨rfl, rfl⟩), ?_⟩
      exact hK
  · have h4 := rerr_in a
    have e1 : gaE a rain = rerr a := by unfold gaE; rw [if_neg hv]
    have e2 : gaQ a rain = [] := by unfold gaQ; rw [e1, if_neg hv]
    rw [e1, e2] at hK
    refine acall_mk (E := envAt (G8 E) 31 0) (envOk _ _ _) Tryd.func13 rfl rfl rfl rfl rfl ?_
    (repeat' (first | exact trivial | exact fun h => h | refine And.intro ?_ ?_ | (intro hb; first | (simp at hb; done) | (simp at hb) | skip) | omega | exact rfl | exact Nat.le_refl _ | (show _ + 1 ≤ 4294967296; omega) | (dsimp only; omega) | (show (_ : Int) ≤ (_ : Int); omega) | (show _ < List.length _; simp only [List.length_set, List.length_append, List.length_take]; omega) | (show wantB _ _ = true; simp; done) | (show wantB _ _ = true; simp; omega) | (show (_ : Bool) = _; simp_all; done) | (exfalso; omega) | fail))
    refine acall_conv [.dat RasT] _ _ _ rfl trivial (acall_frame0 rfl (flood_one E a hl _ ?_))
    obtain h | h | h | h : rerr a = 1 ∨ rerr a = 2 ∨ rerr a = 3 ∨ rerr a = 4 := by omega
    all_goals
      rw [h] at hK ⊢
      (repeat' (first | exact trivial | exact fun h => h | refine And.intro ?_ ?_ | (intro hb; first | (simp at hb; done) | (simp at hb) | skip) | omega | exact rfl | exact Nat.le_refl _ | (show _ + 1 ≤ 4294967296; omega) | (dsimp only; omega) | (show (_ : Int) ≤ (_ : Int); omega) | (show _ < List.length _; simp only [List.length_set, List.length_append, List.length_take]; omega) | (show wantB _ _ = true; simp; done) | (show wantB _ _ = true; simp; omega) | (show (_ : Bool) = _; simp_all; done) | (exfalso; omega) | fail))
      refine ⟨_, _, (REnt.conv [.dat (.list int), .keep] _ rfl trivial).trans (REnt.drop ⟨rfl, rfl⟩), ?_⟩
      exact hK
end Go.Proofs.YtepkknjncpbahaaDoor
/-
  Way: the walk.
-/
namespace Go.Proofs.YtepkknjncpbahaaDoor
open Go Go.Ab
set_option maxRecDepth 100000
def stopN (to : Nat → Nat) (i t : Nat) : Prop := (∀ s, s < t → to (itF to s i) ≠ itF to s i) ∧ to (itF to t i) = itF to t i
theorem stopN_one {to : Nat → Nat} {i t u : Nat} (h1 : stopN to i t) (h2 : stopN to i u) : t = u := by
  rcases Nat.lt_trichotomy t u with h | h | h
  · exact absurd h1.2 (h2.1 t h)
  · exact h
  · exact absurd h2.2 (h1.1 u h)
def wyL (to : Nat → Nat) (i t : Nat) : List Int := lst (t + 1) (fun s => ((itF to s i : Nat) : Int))
theorem wyL_succ (to : Nat → Nat) (i t : Nat) : wyL to i t ++ [((itF to (t + 1) i : Nat) : Int)] = wyL to i (t + 1) := by
  apply List.ext_getElem
  · simp [wyL, lst_len]
  · intro s h1 h2
    simp only [wyL, List.length_append, lst_len, List.length_singleton] at h1
    by_cases e : s = t + 1
    · subst e
      simp [wyL, lst, itF]
    · have hs : s < t + 1 := by omega
      rw [List.getElem_append_left (by rw [wyL, lst_len]; exact hs)]
      simp [wyL, lst]
theorem wyL_len (to : Nat → Nat) (i t : Nat) : (wyL to i t).length = t + 1 := lst_len _ _
def wyE (a : Ras) (cell : Int) : Nat := if rerr a = 0 then (if cell < 0 ∨ (a.2.2.length : Int) ≤ cell then 4 else 0) else rerr a
set_option maxHeartbeats 4000000 in
theorem way_one (E : Errs) (a : Ras) (cell : Int) (hl : a.2.2.length ≤ 1000000000000) (K : AV → List AO → Prop)
    (hK0 : wyE a cell ≠ 0 → K (.tup [.fz (.list int) [], .fz .raw (er E (wyE a cell))]) [])
    (hK1 : wyE a cell = 0 → ∀ t, stopN (flD a.1.toNat a.2.1.toNat (hts a)).to cell.toNat t → K (.tup [.fz (.list int) (wyL (flD a.1.toNat a.2.1.toNat (hts a)).to cell.toNat t), .fz .raw .nilIface]) []) :
    ACall Tryd.prog (G8 E) 15 [.fz RasT a, .fz int cell] [] K := by
  by_cases hv : rerr a = 0
  · have R := RasN.mk' hv
    have F := flowN a.1.toNat a.2.1.toNat (hts a) R.w0
    have eF : flP a = fResP a.1.toNat a.2.1.toNat a := by unfold flP; rw [if_pos hv]
    have hln := R.len
    have hwh := R.wh
    refine acall_mk (E := envAt (G8 E) 51 0) (envOk _ _ _) Tryd.func15 rfl rfl rfl rfl rfl ?_
    (repeat' (first | exact trivial | exact fun h => h | refine And.intro ?_ ?_ | (intro hb; first | (simp at hb; done) | (simp at hb) | skip) | omega | exact rfl | exact Nat.le_refl _ | (show _ + 1 ≤ 4294967296; omega) | (dsimp only; omega) | (show (_ : Int) ≤ (_ : Int); omega) | (show _ < List.length _; simp only [List.length_set, List.length_append, List.length_take]; omega) | (show wantB _ _ = true; simp; done) | (show wantB _ _ = true; simp; omega) | (show (_ : Bool) = _; simp_all; done) | (exfalso; omega) | fail))
    refine acall_conv [.dat RasT] _ _ _ rfl trivial (acall_frame0 rfl (flood_one E a hl _ ?_))
    rw [hv, eF]
    by_cases hc : cell < 0 ∨ (a.2.2.length : Int) ≤ cell
    · have e1 : wyE a cell = 4 := by unfold wyE; rw [if_pos hv, if_pos hc]
      rw [e1] at hK0
      have hK := hK0 (by omega)
      (repeat' (first | exact trivial | exact fun h => h | refine And.intro ?_ ?_ | (intro hb; first | (simp at hb; done) | (simp at hb) | skip) | omega | exact rfl | exact Nat.le_refl _ | (show _ + 1 ≤ 4294967296; omega) | (dsimp only; omega) | (show (_ : Int) ≤ (_ : Int); omega) | (show _ < List.length _; simp only [List.length_set, List.length_append, List.length_take]; omega) | (show wantB _ _ = true; simp; done) | (show wantB _ _ = true; simp; omega) | (show (_ : Bool) = _; simp_all; done) | (exfalso; omega) | refine aRegion_auto (by decide +kernel) ?_ | fail))
      (repeat' (first | exact trivial | exact fun h => h | refine And.intro ?_ ?_ | (intro hb; first | (simp at hb; done) | (simp at hb) | skip) | omega | exact rfl | exact Nat.le_refl _ | (show _ + 1 ≤ 4294967296; omega) | (dsimp only; omega) | (show (_ : Int) ≤ (_ : Int); omega) | (show _ < List.length _; simp only [List.length_set, List.length_append, List.length_take]; omega) | (show wantB _ _ = true; simp; done) | (show wantB _ _ = true; simp; omega) | (show (_ : Bool) = _; simp_all; done) | (exfalso; omega) | refine aRegion_auto (by decide +kernel) ?_ | fail))
      refine ⟨_, _, (REnt.conv [.dat (.list int), .keep] _ rfl trivial).trans (REnt.drop ⟨rfl, rfl⟩), ?_⟩
      exact hK
    · have e1 : wyE a cell = 0 := by unfold wyE; rw [if_pos hv, if_neg hc]
      have hK := hK1 e1
      obtain ⟨c, rfl⟩ : ∃ c : Nat, cell = c := ⟨cell.toNat, by omega⟩
      rw [Int.toNat_natCast] at hK
      have hcn : c < a.1.toNat * a.2.1.toNat := by omega
      have eFl : fResP a.1.toNat a.2.1.toNat a = (lst (a.1.toNat * a.2.1.toNat) (flD a.1.toNat a.2.1.toNat (hts a)).fill, lst (a.1.toNat * a.2.1.toNat) (fun i => wayN a.1.toNat i ((flD a.1.toNat a.2.1.toNat (hts a)).to i)), natL (flD a.1.toNat a.2.1.toNat (hts a)).ord) := rfl
      rw [eFl]
      generalize (flD a.1.toNat a.2.1.toNat (hts a)).to = to at *
      generalize (flD a.1.toNat a.2.1.toNat (hts a)).ord = ord at *
      generalize lst (a.1.toNat * a.2.1.toNat) (flD a.1.toNat a.2.1.toNat (hts a)).fill = fill at *
      obtain ⟨w, hw⟩ : ∃ w, w = a.1.toNat := ⟨_, rfl⟩
      obtain ⟨h, hh⟩ : ∃ h, h = a.2.1.toNat := ⟨_, rfl⟩
      rw [← hw, ← hh] at R F hln hwh hcn ⊢
      have hL := lst_len (w * h) (fun i => wayN w i (to i))
      have hx := fun t => F.idx (F.it_lt hcn t)
      (repeat' (first | exact trivial | exact fun h => h | refine And.intro ?_ ?_ | (intro hb; first | (simp at hb; done) | (simp at hb) | skip) | omega | exact rfl | exact Nat.le_refl _ | (show _ + 1 ≤ 4294967296; omega) | (dsimp only; omega) | (show (_ : Int) ≤ (_ : Int); omega) | (show _ < List.length _; simp only [List.length_set, List.length_append, List.length_take]; omega) | (show wantB _ _ = true; simp; done) | (show wantB _ _ = true; simp; omega) | (show (_ : Bool) = _; simp_all; done) | (exfalso; omega) | fail))
      refine ⟨Nat, fun t => ⟨[(1, .fz int (itF to t c)), (2, .ptr 0 0), (6, .ptr 1 0), (8, .ref 2 0 (t + 1))], [.box [.fz int a.1, .fz int a.2.1, .fz (.list int) a.2.2], .box [.fz (.list int) fill, .fz (.list int) (lst (w * h) (fun i => wayN w i (to i))), .fz (.list int) (natL ord)], .row int (wyL to c t)]⟩, fun t => (∀ s, s < t → to (itF to s c) ≠ itF to s c) ∧ ord.idxOf (itF to t c) + t ≤ ord.idxOf c, fun t => ord.idxOf (itF to t c), 0, ⟨(fun s hs => absurd hs (Nat.not_lt_zero s)), Nat.le_refl _⟩, Ent.sub ?_ ?_, ?_⟩
      · (repeat' (first | exact rfl | refine cons_eq ?_ ?_))
      · (repeat' (first | exact trivial | exact rfl | refine And.intro ?_ ?_))
      intro t ⟨hs, hsum⟩
      have hc' := F.it_lt hcn t
      have hW := wyL_len to c t
      have g2 : (lst (w * h) (fun i => wayN w i (to i)))[itF to t c]?.getD int.dft = wayN w (itF to t c) (to (itF to t c)) := lst_get _ hc'
      by_cases he : to (itF to t c) = itF to t c
      · have hw8 : wayN w (itF to t c) (to (itF to t c)) = 8 := by rw [he, way_self]
        (repeat' (first | exact trivial | exact fun h => h | refine And.intro ?_ ?_ | (intro hb; first | (simp at hb; done) | (simp at hb) | skip) | omega | exact rfl | exact Nat.le_refl _ | (show _ + 1 ≤ 4294967296; omega) | (dsimp only; omega) | (show (_ : Int) ≤ (_ : Int); omega) | (show _ < List.length _; simp only [List.length_set, List.length_append, List.length_take]; omega) | (show wantB _ _ = true; simp; done) | (show wantB _ _ = true; simp; omega) | (show (_ : Bool) = _; simp_all; done) | (exfalso; omega) | fail))
        refine ⟨_, _, (REnt.conv [.dat (.list int), .keep] _ rfl ?_).trans (REnt.drop ⟨rfl, rfl⟩), ?_⟩
        · show 0 + _ ≤ _
          omega
        · refine (congrArg (fun l => K (.tup [.fz (.list int) l, .fz .raw .nilIface]) []) ?_).mp (hK t ⟨hs, he⟩)
          rw [List.drop_zero, List.take_of_length_le (by omega)]
      · obtain ⟨v, hv8, hwv, hnb⟩ := way_to (w := w) (h := h) (i := itF to t c) (t := to (itF to t c)) hc' (F.lt _ hc') (touchN_symm (F.touch _ hc' he))
        have g2' : List.getD (lst (w * h) (fun i => wayN w i (to i))) (Int.toNat ((itF to t c : Nat) : Int)) int.dft = wayN w (itF to t c) (to (itF to t c)) := lst_at _ hc'
        have ht := F.lt _ hc'
        have hd := F.pos _ hc' he
        have hxt := hx t
        have hs' : ∀ s, s < t + 1 → to (itF to s c) ≠ itF to s c := fun s h1 => by
          by_cases e : s = t
          · subst e; exact he
          · exact hs s (by omega)
        have hx0 := hx 0
        have htn : t < w * h := by show t < w * h; have : ord.idxOf c < w * h := hx0; omega
        have hsum' : ord.idxOf (to (itF to t c)) + (t + 1) ≤ ord.idxOf c := by omega
        (repeat' (first | exact trivial | exact fun h => h | refine And.intro ?_ ?_ | (intro hb; first | (simp at hb; done) | (simp at hb) | skip) | omega | exact rfl | exact Nat.le_refl _ | (show _ + 1 ≤ 4294967296; omega) | (dsimp only; omega) | (show (_ : Int) ≤ (_ : Int); omega) | (show _ < List.length _; simp only [List.length_set, List.length_append, List.length_take]; omega) | (show wantB _ _ = true; simp; done) | (show wantB _ _ = true; simp; omega) | (show (_ : Bool) = _; simp_all; done) | (exfalso; omega) | refine aRegion_auto (by decide +kernel) ?_ | fail))
        rw [g2', hwv]
        apply exEff
        · refine acall_conv [.dat RasT, .keep, .keep] _ _ _ rfl trivial (acall_frame0 rfl (neighbour_any _ a R (itF to t c) v hc' hv8 _ (fun u hu => ?_) (fun hnone => ?_)))
          · rw [hnb] at hu; cases hu; exact ⟨rfl, rfl⟩
          · rw [hnb] at hnone; cases hnone
        (repeat' (first | exact trivial | exact fun h => h | refine And.intro ?_ ?_ | (intro hb; first | (simp at hb; done) | (simp at hb) | skip) | omega | exact rfl | exact Nat.le_refl _ | (show _ + 1 ≤ 4294967296; omega) | (dsimp only; omega) | (show (_ : Int) ≤ (_ : Int); omega) | (show _ < List.length _; simp only [List.length_set, List.length_append, List.length_take]; omega) | (show wantB _ _ = true; simp; done) | (show wantB _ _ = true; simp; omega) | (show (_ : Bool) = _; simp_all; done) | (exfalso; omega) | refine aRegion_auto (by decide +kernel) ?_ | fail))
        refine ⟨t + 1, ⟨hs', hsum'⟩, hd, Ent.ren [0, 1, 4] rfl ?_ ?_⟩
        · (repeat' (first | exact trivial | exact rfl | refine And.intro ?_ ?_))
          refine congrArg (fun l => some (AO.row int l)) (?_ : List.take (t + 1) (wyL to c t) ++ [((itF to (t + 1) c : Nat) : Int)] = wyL to c (t + 1))
          rw [List.take_of_length_le (by omega), wyL_succ]
        · (repeat' (first | exact trivial | exact rfl | refine And.intro ?_ ?_))
  · have h4 := rerr_in a
    have e1 : wyE a cell = rerr a := by unfold wyE; rw [if_neg hv]
    rw [e1] at hK0
    have hK := hK0 hv
    refine acall_mk (E := envAt (G8 E) 51 0) (envOk _ _ _) Tryd.func15 rfl rfl rfl rfl rfl ?_
    (repeat' (first | exact trivial | exact fun h => h | refine And.intro ?_ ?_ | (intro hb; first | (simp at hb; done) | (simp at hb) | skip) | omega | exact rfl | exact Nat.le_refl _ | (show _ + 1 ≤ 4294967296; omega) | (dsimp only; omega) | (show (_ : Int) ≤ (_ : Int); omega) | (show _ < List.length _; simp only [List.length_set, List.length_append, List.length_take]; omega) | (show wantB _ _ = true; simp; done) | (show wantB _ _ = true; simp; omega) | (show (_ : Bool) = _; simp_all; done) | (exfalso; omega) | fail))
    refine acall_conv [.dat RasT] _ _ _ rfl trivial (acall_frame0 rfl (flood_one E a hl _ ?_))
    obtain h | h | h | h : rerr a = 1 ∨ rerr a = 2 ∨ rerr a = 3 ∨ rerr a = 4 := by omega
    all_goals
      rw [h] at hK ⊢
      (repeat' (first | exact trivial | exact fun h => h | refine And.intro ?_ ?_ | (intro hb; first | (simp at hb; done) | (simp at hb) | skip) | omega | exact rfl | exact Nat.le_refl _ | (show _ + 1 ≤ 4294967296; omega) | (dsimp only; omega) | (show (_ : Int) ≤ (_ : Int); omega) | (show _ < List.length _; simp only [List.length_set, List.length_append, List.length_take]; omega) | (show wantB _ _ = true; simp; done) | (show wantB _ _ = true; simp; omega) | (show (_ : Bool) = _; simp_all; done) | (exfalso; omega) | fail))
      refine ⟨_, _, (REnt.conv [.dat (.list int), .keep] _ rfl trivial).trans (REnt.drop ⟨rfl, rfl⟩), ?_⟩
      exact hK
noncomputable def wyT (to : Nat → Nat) (i : Nat) : Nat := Classical.epsilon (stopN to i)
theorem wyT_eq {to : Nat → Nat} {i t : Nat} (h : stopN to i t) : wyT to i = t := stopN_one (Classical.epsilon_spec ⟨t, h⟩) h
noncomputable def wyQ (a : Ras) (cell : Int) : List Int := if wyE a cell = 0 then wyL (flD a.1.toNat a.2.1.toNat (hts a)).to cell.toNat (wyT (flD a.1.toNat a.2.1.toNat (hts a)).to cell.toNat) else []
theorem way_two (E : Errs) (a : Ras) (cell : Int) (hl : a.2.2.length ≤ 1000000000000) (K : AV → List AO → Prop) (hK : K (.tup [.fz (.list int) (wyQ a cell), .fz .raw (er E (wyE a cell))]) []) :
    ACall Tryd.prog (G8 E) 15 [.fz RasT a, .fz int cell] [] K := by
  refine way_one E a cell hl K (fun hne => ?_) (fun h0 t ht => ?_)
  · unfold wyQ at hK
    rw [if_neg hne] at hK
    exact hK
  · unfold wyQ at hK
    rw [if_pos h0, wyT_eq ht, h0] at hK
    exact hK
end Go.Proofs.YtepkknjncpbahaaDoor
