/-
  Plain facts on a map of arcs: ways, the next way with the clock is the one ahead of it in the order against the clock (no program in sight).
-/
import Derived.Test.YtcfalmdfohphoaaDoorM5
import Derived.OrdersIn
import Derived.RangeFuncCalls
import Derived.RangeFuncBox
import Derived.RangeFuncLeaves
import Derived.Shelf.Abstract
namespace Shp
abbrev Arcs := List (List Sp)
def arcOf (m : Arcs) (w : Int) : List Sp := m.getD (w.natAbs - 1) []
def frm (m : Arcs) (w : Int) : Sp := if 0 < w then at_ (arcOf m w) 0 else at_ (arcOf m w) ((arcOf m w).length - 1)
def nxp (m : Arcs) (w : Int) : Sp := if 0 < w then at_ (arcOf m w) 1 else at_ (arcOf m w) ((arcOf m w).length - 2)
def sub (p q : Sp) : Sp := (p.1 - q.1, p.2 - q.2)
def dr (m : Arcs) (w : Int) : Sp := sub (nxp m w) (frm m w)
def isWay (m : Arcs) (w : Int) : Prop := w ≠ 0 ∧ w.natAbs ≤ m.length
/-- the ways in the order of the search -/
def wl : Nat → List Int
  | 0 => []
  | k + 1 => wl k ++ [-((k : Int) + 1), (k : Int) + 1]
theorem mem_wl : ∀ (k : Nat) (v : Int), v ∈ wl k ↔ v ≠ 0 ∧ v.natAbs ≤ k
  | 0, v => by simp [wl]
  | k + 1, v => by
    simp only [wl, List.mem_append, List.mem_cons, List.not_mem_nil, or_false, mem_wl k v]
    omega
def nst (m : Arcs) (w : Int) (st : Int × Sp) (v : Int) : Int × Sp :=
  if v = -w ∨ frm m v ≠ frm m (-w) then st else if st.1 = 0 ∨ soon (dr m (-w)) (dr m v) st.2 = true then (v, dr m v) else st
def nof (m : Arcs) (w : Int) : Int := if ((wl m.length).foldl (nst m w) (0, (0, 0))).1 = 0 then -w else ((wl m.length).foldl (nst m w) (0, (0, 0))).1
/-- what has been found while the right one has not come -/
def NI (m : Arcs) (w pv : Int) (st : Int × Sp) : Prop := st = (pv, dr m pv) ∨ st.1 = 0 ∨ (isWay m st.1 ∧ frm m st.1 = frm m (-w) ∧ st.1 ≠ -w ∧ st.1 ≠ pv ∧ st.2 = dr m st.1)
theorem nst_fold {m : Arcs} {w pv : Int} (hp0 : pv ≠ 0) (hpf : frm m pv = frm m (-w)) (hpw : pv ≠ -w)
    (hc : ∀ v, isWay m v → frm m v = frm m (-w) → v ≠ -w → v ≠ pv → soon (dr m (-w)) (dr m pv) (dr m v) = true ∧ soon (dr m (-w)) (dr m v) (dr m pv) = false) :
    ∀ (xs : List Int), (∀ v ∈ xs, isWay m v) → ∀ st, NI m w pv st → NI m w pv (xs.foldl (nst m w) st) ∧ (pv ∈ xs ∨ st = (pv, dr m pv) → xs.foldl (nst m w) st = (pv, dr m pv))
  | [], _, st, h => ⟨h, fun h => h.elim (fun h => by cases h) id⟩
  | v :: xs, hx, st, h => by
    have hv := hx v (List.mem_cons_self ..)
    have hxs : ∀ u ∈ xs, isWay m u := fun u hu => hx u (List.mem_cons_of_mem _ hu)
    rw [List.foldl_cons]
    have key : NI m w pv (nst m w st v) ∧ (v = pv ∨ st = (pv, dr m pv) → nst m w st v = (pv, dr m pv)) := by
      unfold nst
      by_cases c1 : v = -w ∨ frm m v ≠ frm m (-w)
      · rw [if_pos c1]
        refine ⟨h, fun h2 => h2.elim (fun e => ?_) id⟩
        subst e
        exact absurd c1 (by rintro (c | c); exact hpw c; exact c hpf)
      · rw [if_neg c1]
        have c2 : v ≠ -w := fun e => c1 (.inl e)
        have c3 : frm m v = frm m (-w) := Classical.byContradiction fun e => c1 (.inr e)
        by_cases e : v = pv
        · subst e
          have g : (if st.1 = 0 ∨ soon (dr m (-w)) (dr m v) st.2 = true then (v, dr m v) else st) = (v, dr m v) := by
            rcases h with h | h | ⟨a1, a2, a3, a4, a5⟩
            · rw [h]; split <;> rfl
            · rw [if_pos (.inl h)]
            · rw [if_pos (.inr (by rw [a5]; exact (hc _ a1 a2 a3 a4).1))]
          rw [g]
          exact ⟨.inl rfl, fun _ => rfl⟩
        · rcases h with h | h | h
          · have g : (if st.1 = 0 ∨ soon (dr m (-w)) (dr m v) st.2 = true then (v, dr m v) else st) = st := by
              rw [if_neg]
              rintro (c | c)
              · rw [h] at c; exact hp0 c
              · rw [h] at c
                rw [(hc v hv c3 c2 e).2] at c
                cases c
            rw [g]
            exact ⟨.inl h, fun _ => h⟩
          · rw [if_pos (.inl h)]
            refine ⟨.inr (.inr ⟨hv, c3, c2, e, rfl⟩), fun h2 => ?_⟩
            rcases h2 with h2 | h2
            · exact absurd h2 e
            · rw [h2] at h; exact absurd h hp0
          · refine ⟨?_, fun h2 => ?_⟩
            · split
              · exact .inr (.inr ⟨hv, c3, c2, e, rfl⟩)
              · exact .inr (.inr h)
            · rcases h2 with h2 | h2
              · exact absurd h2 e
              · rw [h2] at h; exact absurd rfl h.2.2.2.1
    obtain ⟨i1, i2⟩ := nst_fold hp0 hpf hpw hc xs hxs _ key.1
    refine ⟨i1, fun h2 => ?_⟩
    rcases h2 with h2 | h2
    · rcases List.mem_cons.1 h2 with h3 | h3
      · exact i2 (.inr (key.2 (.inl h3.symm)))
      · exact i2 (.inl h3)
    · exact i2 (.inr (key.2 (.inr h2)))
theorem nst_none {m : Arcs} {w : Int} : ∀ (xs : List Int), (∀ v ∈ xs, v = -w ∨ frm m v ≠ frm m (-w)) → ∀ st, xs.foldl (nst m w) st = st
  | [], _, _ => rfl
  | v :: xs, h, st => by
    rw [List.foldl_cons]
    have : nst m w st v = st := by unfold nst; rw [if_pos (h v (List.mem_cons_self ..))]
    rw [this]
    exact nst_none xs (fun u hu => h u (List.mem_cons_of_mem _ hu)) st
theorem nof_prev {m : Arcs} {p : Sp} {l : List Int} (hm : ∀ v, v ∈ l ↔ isWay m v ∧ frm m v = p) (hs : l.Pairwise (fun a b => trn (dr m a) (dr m b) < 0)) (hz : ∀ v ∈ l, dr m v ≠ (0, 0))
    {w : Int} {i : Nat} (hi : i < l.length) (e : l[i] = -w) : nof m w = l[(i + l.length - 1) % l.length]'(Nat.mod_lt _ (by omega)) := by
  have hP := List.pairwise_iff_getElem.1 hs
  have hwl : -w ∈ l := by rw [← e]; exact List.getElem_mem hi
  have hfw : frm m (-w) = p := ((hm _).1 hwl).2
  have hin : ∀ v ∈ l, v ∈ wl m.length := fun v hv => (mem_wl _ _).2 ((hm v).1 hv).1
  by_cases h1 : l.length = 1
  · have hall : ∀ v ∈ wl m.length, v = -w ∨ frm m v ≠ frm m (-w) := fun v hv => by
      by_cases c : frm m v = frm m (-w)
      · left
        have hv2 : v ∈ l := (hm v).2 ⟨(mem_wl _ _).1 hv, by rw [c, hfw]⟩
        obtain ⟨j, hj, rfl⟩ := List.getElem_of_mem hv2
        have : j = i := by omega
        subst this
        exact e
      · exact .inr c
    unfold nof
    rw [nst_none _ hall]
    rw [if_pos rfl, ← e]
    congr 1
    rw [h1]
    omega
  · obtain ⟨j, hj⟩ : ∃ j, j = (i + l.length - 1) % l.length := ⟨_, rfl⟩
    have hjl : j < l.length := by rw [hj]; exact Nat.mod_lt _ (by omega)
    have hji : (i = 0 ∧ j = l.length - 1) ∨ (0 < i ∧ j = i - 1) := by
      rcases Nat.eq_zero_or_pos i with c | c
      · left
        refine ⟨c, ?_⟩
        rw [hj, c, Nat.zero_add]
        exact Nat.mod_eq_of_lt (by omega)
      · right
        refine ⟨c, ?_⟩
        rw [hj, show i + l.length - 1 = (i - 1) + l.length by omega, Nat.add_mod_right]
        exact Nat.mod_eq_of_lt (by omega)
    have hinj : ∀ a b (ha : a < l.length) (hb : b < l.length), l[a] = l[b] → a = b := fun a b ha hb h => by
      rcases Nat.lt_trichotomy a b with c | c | c
      · have := hP a b ha hb c
        rw [h] at this
        have h3 := trn_swap (dr m l[b]) (dr m l[b])
        omega
      · exact c
      · have := hP b a hb ha c
        rw [h] at this
        have h3 := trn_swap (dr m l[b]) (dr m l[b])
        omega
    have hg : l[(i + l.length - 1) % l.length]'(Nat.mod_lt _ (by omega)) = l[j] := by congr 1; exact hj.symm
    rw [hg]
    have hpl : l[j] ∈ l := List.getElem_mem hjl
    have hpw : l[j] ≠ -w := fun h => by
      rw [← e] at h
      have := hinj _ _ hjl hi h
      omega
    have hp0 : l[j] ≠ 0 := ((hm _).1 hpl).1.1
    have hc : ∀ v, isWay m v → frm m v = frm m (-w) → v ≠ -w → v ≠ l[j] → soon (dr m (-w)) (dr m l[j]) (dr m v) = true ∧ soon (dr m (-w)) (dr m v) (dr m l[j]) = false := fun v h1 h2 h3 h4 => by
      have hv2 : v ∈ l := (hm v).2 ⟨h1, by rw [h2, hfw]⟩
      obtain ⟨k, hk, rfl⟩ := List.getElem_of_mem hv2
      refine soon_cyc (hz _ hwl) (hz _ hpl) (hz _ hv2) ?_
      rw [← e]
      have k1 : k ≠ i := fun h => h3 (by subst h; exact e)
      have k2 : k ≠ j := fun h => h4 (by subst h; rfl)
      unfold CY
      rcases hji with ⟨a, b⟩ | ⟨a, b⟩
      · exact .inr (.inr ⟨hP i k hi hk (by omega), hP k j hk hjl (by omega)⟩)
      · rcases Nat.lt_or_ge k i with c | c
        · exact .inl ⟨hP k j hk hjl (by omega), hP j i hjl hi (by omega)⟩
        · exact .inr (.inl ⟨hP j i hjl hi (by omega), hP i k hi hk (by omega)⟩)
    have := (nst_fold hp0 (by rw [hfw]; exact ((hm _).1 hpl).2) hpw hc (wl m.length) (fun v hv => (mem_wl _ _).1 hv) (0, (0, 0)) (.inr (.inl rfl))).2 (.inl (hin _ hpl))
    unfold nof
    rw [this]
    rw [if_neg hp0]
end Shp
/-
  Plain facts on two pieces: what they have in common, and whether they meet (no program in sight).
-/
namespace Shp
theorem mem_wif (c : Bool) (l : List Sp) (p x : Sp) : x ∈ wif c l p ↔ x ∈ l ∨ (c = true ∧ x = p) := by
  unfold wif wth
  cases c
  · simp
  · by_cases h : p ∈ l
    · simp only [h, if_true]
      exact ⟨.inl, fun h2 => h2.elim id fun h3 => h3.2 ▸ h⟩
    · simp [h]
theorem nodup_wif {c : Bool} {l : List Sp} {p : Sp} (h : l.Nodup) : (wif c l p).Nodup := by
  unfold wif wth
  split
  · split
    · exact h
    · rename_i h2
      exact List.nodup_append.2 ⟨h, by simp, fun a ha b hb => by simp at hb; subst hb; exact fun e => h2 (e ▸ ha)⟩
  · exact h
theorem mem_coml (p q r s x : Sp) : x ∈ coml p q r s ↔ (on p q r = true ∧ x = r) ∨ (on p q s = true ∧ x = s) ∨ (on r s p = true ∧ x = p) ∨ (on r s q = true ∧ x = q) := by
  unfold coml
  rw [mem_wif, mem_wif, mem_wif, mem_wif]
  simp [or_assoc]
theorem nodup_coml (p q r s : Sp) : (coml p q r s).Nodup := nodup_wif (nodup_wif (nodup_wif (nodup_wif List.nodup_nil)))
theorem com_spec (p q r s : Sp) : (com p q r s = (0, (0, 0)) ∧ coml p q r s = [] ∧ crs p q r s = false) ∨ (∃ x, com p q r s = (1, x) ∧ coml p q r s = [x]) ∨ (com p q r s = (2, (0, 0)) ∧ (1 < (coml p q r s).length ∨ (coml p q r s = [] ∧ crs p q r s = true))) := by
  unfold com
  match h : coml p q r s with
  | [] =>
    cases hc : crs p q r s
    · left; simp
    · right; right; simp
  | [x] => right; left; exact ⟨x, by simp [at_], rfl⟩
  | x :: y :: l => right; right; simp
theorem on_side {p q r : Sp} (h : on p q r = true) : side p q r = 0 := by unfold on at h; simp at h; exact h.1.1.1.1
theorem crs_on {p q r s : Sp} (h : crs p q r s = true) : on p q r = false ∧ on p q s = false ∧ on r s p = false ∧ on r s q = false := by
  unfold crs at h
  simp only [Bool.and_eq_true, decide_eq_true_eq] at h
  have z : sgZ 0 = 0 := rfl
  refine ⟨?_, ?_, ?_, ?_⟩ <;> refine Bool.eq_false_iff.2 fun c => ?_ <;> have c := on_side c <;> rw [c, z] at h <;> simp at h <;> omega
theorem tch_iff (p q r : Sp) : tch p q r = true ↔ on p q r = true ∧ r ≠ p ∧ r ≠ q := by unfold tch; simp [and_assoc]
theorem sam_iff (p q r s : Sp) : sam p q r s = true ↔ (p = r ∧ q = s) ∨ (p = s ∧ q = r) := by unfold sam; simp
theorem meet_iff (p q r s : Sp) : meet p q r s = true ↔ tch p q r = true ∨ tch p q s = true ∨ tch r s p = true ∨ tch r s q = true ∨ sam p q r s = true ∨ crs p q r s = true := by unfold meet; simp [or_assoc]
/-- an end of both -/
def both (p q r s x : Sp) : Prop := (x = p ∨ x = q) ∧ (x = r ∨ x = s)
theorem com_meet {p q r s : Sp} (hpq : p ≠ q) (h : meet p q r s = true) : (com p q r s).1 = 2 ∨ ((com p q r s).1 = 1 ∧ ¬ both p q r s (com p q r s).2) := by
  rw [meet_iff] at h
  rcases com_spec p q r s with ⟨_, h2, h3⟩ | ⟨x, h1, h2⟩ | ⟨h1, h2⟩
  · have hm := fun x => mem_coml p q r s x
    rw [h2] at hm
    have hn : ∀ x, x ∉ ([] : List Sp) := fun x => List.not_mem_nil
    rcases h with h | h | h | h | h | h
    · exact absurd ((hm r).2 (.inl ⟨((tch_iff _ _ _).1 h).1, rfl⟩)) (hn _)
    · exact absurd ((hm s).2 (.inr (.inl ⟨((tch_iff _ _ _).1 h).1, rfl⟩))) (hn _)
    · exact absurd ((hm p).2 (.inr (.inr (.inl ⟨((tch_iff _ _ _).1 h).1, rfl⟩)))) (hn _)
    · exact absurd ((hm q).2 (.inr (.inr (.inr ⟨((tch_iff _ _ _).1 h).1, rfl⟩)))) (hn _)
    · rcases (sam_iff _ _ _ _).1 h with ⟨a, b⟩ | ⟨a, b⟩
      · exact absurd ((hm r).2 (.inl ⟨a ▸ on_l p q, rfl⟩)) (hn _)
      · exact absurd ((hm s).2 (.inr (.inl ⟨a ▸ on_l p q, rfl⟩))) (hn _)
    · rw [h3] at h; cases h
  · right
    rw [h1]
    refine ⟨rfl, ?_⟩
    have hm := fun x => mem_coml p q r s x
    rw [h2] at hm
    have hx : ∀ y, (on p q r = true ∧ y = r) ∨ (on p q s = true ∧ y = s) ∨ (on r s p = true ∧ y = p) ∨ (on r s q = true ∧ y = q) → y = x := fun y hy => List.mem_singleton.1 ((hm y).2 hy)
    show ¬ both p q r s x
    rintro ⟨e1, e2⟩
    rcases h with h | h | h | h | h | h
    · obtain ⟨a, b, c⟩ := (tch_iff _ _ _).1 h
      have := hx r (.inl ⟨a, rfl⟩)
      rcases e1 with e | e
      · exact b (this.trans e)
      · exact c (this.trans e)
    · obtain ⟨a, b, c⟩ := (tch_iff _ _ _).1 h
      have := hx s (.inr (.inl ⟨a, rfl⟩))
      rcases e1 with e | e
      · exact b (this.trans e)
      · exact c (this.trans e)
    · obtain ⟨a, b, c⟩ := (tch_iff _ _ _).1 h
      have := hx p (.inr (.inr (.inl ⟨a, rfl⟩)))
      rcases e2 with e | e
      · exact b (this.trans e)
      · exact c (this.trans e)
    · obtain ⟨a, b, c⟩ := (tch_iff _ _ _).1 h
      have := hx q (.inr (.inr (.inr ⟨a, rfl⟩)))
      rcases e2 with e | e
      · exact b (this.trans e)
      · exact c (this.trans e)
    · rcases (sam_iff _ _ _ _).1 h with ⟨a, b⟩ | ⟨a, b⟩
      · subst a; subst b
        have h5 := hx p (.inr (.inr (.inl ⟨on_l _ _, rfl⟩)))
        have h6 := hx q (.inr (.inr (.inr ⟨on_r _ _, rfl⟩)))
        exact hpq (h5.trans h6.symm)
      · subst a; subst b
        have h5 := hx p (.inr (.inr (.inl ⟨on_r _ _, rfl⟩)))
        have h6 := hx q (.inr (.inr (.inr ⟨on_l _ _, rfl⟩)))
        exact hpq (h5.trans h6.symm)
    · obtain ⟨c1, c2, c3, c4⟩ := crs_on h
      have := (hm x).1 (List.mem_singleton.2 rfl)
      rw [c1, c2, c3, c4] at this
      simp at this
  · left; rw [h1]
theorem com_end {p q r s : Sp} (hpq : p ≠ q) (hrs : r ≠ s) (h : meet p q r s = false) : ((∀ x, ¬ both p q r s x) → (com p q r s).1 = 0) ∧ ∀ x, both p q r s x → com p q r s = (1, x) := by
  have hf : ∀ c, (c = tch p q r ∨ c = tch p q s ∨ c = tch r s p ∨ c = tch r s q ∨ c = sam p q r s ∨ c = crs p q r s) → c = false := fun c hc => Bool.eq_false_iff.2 fun ht => by
    rw [Bool.eq_false_iff] at h
    refine h ((meet_iff _ _ _ _).2 ?_)
    rcases hc with e | e | e | e | e | e <;> rw [e] at ht <;> simp [ht]
  have t1 : ¬ (on p q r = true ∧ r ≠ p ∧ r ≠ q) := fun c => by have := hf _ (.inl rfl); rw [(tch_iff _ _ _).2 c] at this; cases this
  have t2 : ¬ (on p q s = true ∧ s ≠ p ∧ s ≠ q) := fun c => by have := hf _ (.inr (.inl rfl)); rw [(tch_iff _ _ _).2 c] at this; cases this
  have t3 : ¬ (on r s p = true ∧ p ≠ r ∧ p ≠ s) := fun c => by have := hf _ (.inr (.inr (.inl rfl))); rw [(tch_iff _ _ _).2 c] at this; cases this
  have t4 : ¬ (on r s q = true ∧ q ≠ r ∧ q ≠ s) := fun c => by have := hf _ (.inr (.inr (.inr (.inl rfl)))); rw [(tch_iff _ _ _).2 c] at this; cases this
  have t5 : ¬ ((p = r ∧ q = s) ∨ (p = s ∧ q = r)) := fun c => by have := hf _ (.inr (.inr (.inr (.inr (.inl rfl))))); rw [(sam_iff _ _ _ _).2 c] at this; cases this
  have t6 := hf _ (.inr (.inr (.inr (.inr (.inr rfl)))))
  -- what is in common is an end of both
  have hb : ∀ x, x ∈ coml p q r s → both p q r s x := fun x hx => by
    rcases (mem_coml _ _ _ _ _).1 hx with ⟨a, rfl⟩ | ⟨a, rfl⟩ | ⟨a, rfl⟩ | ⟨a, rfl⟩
    · exact ⟨Classical.byContradiction fun c => t1 ⟨a, fun e => c (.inl e), fun e => c (.inr e)⟩, .inl rfl⟩
    · exact ⟨Classical.byContradiction fun c => t2 ⟨a, fun e => c (.inl e), fun e => c (.inr e)⟩, .inr rfl⟩
    · exact ⟨.inl rfl, Classical.byContradiction fun c => t3 ⟨a, fun e => c (.inl e), fun e => c (.inr e)⟩⟩
    · exact ⟨.inr rfl, Classical.byContradiction fun c => t4 ⟨a, fun e => c (.inl e), fun e => c (.inr e)⟩⟩
  have hu : ∀ x y, both p q r s x → both p q r s y → x = y := fun x y ⟨a, b⟩ ⟨c, d⟩ => by
    rcases a with a | a <;> rcases b with b | b <;> rcases c with c | c <;> rcases d with d | d <;> subst_vars <;> first | rfl | exact absurd rfl hpq | exact absurd rfl hrs | (exact absurd (.inl ⟨rfl, rfl⟩) t5) | (exact absurd (.inr ⟨rfl, rfl⟩) t5)
  have hm : ∀ x, both p q r s x → x ∈ coml p q r s := fun x ⟨a, b⟩ => by
    rw [mem_coml]
    rcases b with b | b
    · left
      refine ⟨?_, b⟩
      rcases a with a | a
      · rw [← b, a]; exact on_l _ _
      · rw [← b, a]; exact on_r _ _
    · right; left
      refine ⟨?_, b⟩
      rcases a with a | a
      · rw [← b, a]; exact on_l _ _
      · rw [← b, a]; exact on_r _ _
  have hnd := nodup_coml p q r s
  rcases com_spec p q r s with ⟨h1, h2, h3⟩ | ⟨x, h1, h2⟩ | ⟨h1, h2⟩
  · refine ⟨fun _ => by rw [h1], fun x hx => ?_⟩
    have := hm x hx
    rw [h2] at this
    cases this
  · refine ⟨fun hn => absurd (hb x (by rw [h2]; exact List.mem_singleton.2 rfl)) (hn x), fun y hy => ?_⟩
    have := hm y hy
    rw [h2] at this
    rw [h1, List.mem_singleton.1 this]
  · exfalso
    rcases h2 with h2 | ⟨_, h2⟩
    · match hl : coml p q r s, h2 with
      | a :: b :: l, _ =>
        rw [hl] at hnd hb
        have := hu a b (hb a (by simp)) (hb b (by simp))
        rw [this] at hnd
        simp at hnd
    · rw [t6] at h2; cases h2
theorem meet_comm (p q r s : Sp) : meet r s p q = meet p q r s := by
  have c : crs r s p q = crs p q r s := by unfold crs; rw [Bool.and_comm]
  have c2 : sam r s p q = sam p q r s := by
    rw [Bool.eq_iff_iff, sam_iff, sam_iff]
    constructor
    · rintro (⟨rfl, rfl⟩ | ⟨rfl, rfl⟩)
      · exact .inl ⟨rfl, rfl⟩
      · exact .inr ⟨rfl, rfl⟩
    · rintro (⟨rfl, rfl⟩ | ⟨rfl, rfl⟩)
      · exact .inl ⟨rfl, rfl⟩
      · exact .inr ⟨rfl, rfl⟩
  rw [Bool.eq_iff_iff, meet_iff, meet_iff, c, c2]
  constructor
  · rintro (h | h | h | h | h) <;> simp [h]
  · rintro (h | h | h | h | h) <;> simp [h]
end Shp
/-
  Plain facts on a map: which pieces of arcs may touch, told by the document and by the code (no program in sight).
-/
namespace Shp
def arc (m : Arcs) (i : Nat) : List Sp := m.getD i []
def pt (m : Arcs) (i k : Nat) : Sp := at_ (arc m i) k
/-- is it a place in the map? -/
def inM (m : Arcs) (i t : Nat) : Prop := i < m.length ∧ t < (arc m i).length
def isP (m : Arcs) (i k : Nat) : Prop := i < m.length ∧ k + 1 < (arc m i).length
def ndB (a : List Sp) (k : Nat) (x : Sp) : Bool := (decide (k = 0) && decide (x = at_ a 0)) || (decide (k + 2 = a.length) && decide (x = at_ a (a.length - 1)))
def enB (p q r s x : Sp) : Bool := (decide (x = p) || decide (x = q)) && (decide (x = r) || decide (x = s))
/-- may the later piece and the earlier one lie so? -/
def okR (m : Arcs) (i k j n : Nat) : Bool :=
  let c := com (pt m i k) (pt m i (k + 1)) (pt m j n) (pt m j (n + 1))
  decide (c.1 = 0) || (!decide (c.1 = 2) && enB (pt m i k) (pt m i (k + 1)) (pt m j n) (pt m j (n + 1)) c.2 &&
    ((decide (j = i) && decide (n + 1 = k) && decide (c.2 = pt m i k)) || (ndB (arc m i) k c.2 && ndB (arc m j) n c.2)))
def apR (m : Arcs) : Prop := ∀ i k j n, isP m i k → isP m j n → (j < i ∨ (j = i ∧ n < k)) → okR m i k j n = true
def noMeet (m : Arcs) : Prop := ∀ i k j n, isP m i k → isP m j n → (j < i ∨ (j = i ∧ n < k)) → meet (pt m j n) (pt m j (n + 1)) (pt m i k) (pt m i (k + 1)) = false
def inOnce (m : Arcs) : Prop := ∀ i t j u, inM m i t → 0 < t → t + 1 < (arc m i).length → inM m j u → pt m i t = pt m j u → i = j ∧ t = u
/-- neighbours differ -/
def step1 (m : Arcs) : Prop := ∀ i k, isP m i k → pt m i k ≠ pt m i (k + 1)
theorem enB_iff (p q r s x : Sp) : enB p q r s x = true ↔ both p q r s x := by unfold enB both; simp
theorem ndB_iff (a : List Sp) (k : Nat) (x : Sp) : ndB a k x = true ↔ (k = 0 ∧ x = at_ a 0) ∨ (k + 2 = a.length ∧ x = at_ a (a.length - 1)) := by unfold ndB; simp
theorem okR_iff (m : Arcs) (i k j n : Nat) : okR m i k j n = true ↔ (com (pt m i k) (pt m i (k + 1)) (pt m j n) (pt m j (n + 1))).1 = 0 ∨
    ((com (pt m i k) (pt m i (k + 1)) (pt m j n) (pt m j (n + 1))).1 ≠ 2 ∧ both (pt m i k) (pt m i (k + 1)) (pt m j n) (pt m j (n + 1)) (com (pt m i k) (pt m i (k + 1)) (pt m j n) (pt m j (n + 1))).2 ∧
      ((j = i ∧ n + 1 = k ∧ (com (pt m i k) (pt m i (k + 1)) (pt m j n) (pt m j (n + 1))).2 = pt m i k) ∨
        (ndB (arc m i) k (com (pt m i k) (pt m i (k + 1)) (pt m j n) (pt m j (n + 1))).2 = true ∧ ndB (arc m j) n (com (pt m i k) (pt m i (k + 1)) (pt m j n) (pt m j (n + 1))).2 = true))) := by
  unfold okR
  simp only [Bool.or_eq_true, Bool.and_eq_true, decide_eq_true_eq, Bool.not_eq_true', decide_eq_false_iff_not, enB_iff, and_assoc, ne_eq]
theorem no_nd {m : Arcs} (h1 : step1 m) {i t : Nat} (hi : i < m.length) (h0 : 0 < t) (ht : t + 1 < (arc m i).length) : ndB (arc m i) t (pt m i t) = false := by
  rw [Bool.eq_false_iff, ne_eq, ndB_iff]
  rintro (⟨a, _⟩ | ⟨a, b⟩)
  · omega
  · refine h1 i t ⟨hi, ht⟩ ?_
    rw [b]
    unfold pt
    congr 1
    omega
theorem apart_iff {m : Arcs} (h1 : step1 m) (h2 : ∀ i, i < m.length → 2 ≤ (arc m i).length) : apR m ↔ noMeet m ∧ inOnce m := by
  constructor
  · intro h
    have hno : noMeet m := fun i k j n hk hn ho => by
      have g := h i k j n hk hn ho
      rw [← meet_comm]
      refine Bool.eq_false_iff.2 fun hc => ?_
      rw [okR_iff] at g
      rcases com_meet (h1 i k hk) hc with c | ⟨c1, c2⟩
      · rcases g with g | g
        · omega
        · exact g.1 c
      · rcases g with g | g
        · omega
        · exact c2 g.2.1
    refine ⟨hno, fun i t j u hi h0 ht hj e => ?_⟩
    refine Classical.byContradiction fun hne => ?_
    have hnd := no_nd h1 hi.1 h0 ht
    have h1t := h1 i t ⟨hi.1, ht⟩
    -- a piece with the other place
    obtain ⟨n, hn, hnu⟩ : ∃ n, isP m j n ∧ (n = u ∨ n + 1 = u) := by
      have := h2 j hj.1
      by_cases c : u + 1 < (arc m j).length
      · exact ⟨u, ⟨hj.1, c⟩, .inl rfl⟩
      · have := hj.2
        exact ⟨u - 1, ⟨hj.1, by omega⟩, .inr (by omega)⟩
    have hx : pt m i t = pt m j n ∨ pt m i t = pt m j (n + 1) := by
      rcases hnu with c | c
      · subst c; exact .inl e
      · rw [c]; exact .inr e
    have hp : isP m i t := ⟨hi.1, ht⟩
    by_cases hji : j < i ∨ (j = i ∧ n < t)
    · have g := h i t j n hp hn hji
      have q := (com_end h1t (h1 j n hn) (by rw [meet_comm]; exact hno i t j n hp hn hji)).2 (pt m i t) ⟨.inl rfl, hx⟩
      rw [okR_iff, q] at g
      rcases g with g | ⟨_, _, g | g⟩
      · cases g
      · obtain ⟨a, b, _⟩ := g
        subst a
        -- behind: the other place is the next but one, or this one
        rcases hnu with c | c
        · have h6 := h1 j n hn
          rw [b] at h6
          exact h6 (by rw [c]; exact e.symm)
        · exact hne ⟨rfl, by omega⟩
      · rw [hnd] at g; cases g.1
    · by_cases hs : j = i ∧ n = t
      · obtain ⟨a, b⟩ := hs
        subst a; subst b
        rcases hnu with c | c
        · exact hne ⟨rfl, c⟩
        · exact h1t (by rw [c]; exact e)
      · have hij : i < j ∨ (i = j ∧ t < n) := by omega
        have g := h j n i t hn hp hij
        have q := (com_end (h1 j n hn) h1t (by rw [meet_comm]; exact hno j n i t hn hp hij)).2 (pt m i t) ⟨hx, .inl rfl⟩
        rw [okR_iff, q] at g
        rcases g with g | ⟨_, _, g | g⟩
        · cases g
        · obtain ⟨a, b, c⟩ := g
          subst a
          rw [← b] at c
          exact h1t c
        · rw [hnd] at g; cases g.2
  · rintro ⟨hno, hin⟩ i k j n hk hn ho
    have q := com_end (h1 i k hk) (h1 j n hn) (by rw [meet_comm]; exact hno i k j n hk hn ho)
    rw [okR_iff]
    by_cases hb : ∃ x, both (pt m i k) (pt m i (k + 1)) (pt m j n) (pt m j (n + 1)) x
    · obtain ⟨x, hb⟩ := hb
      rw [q.2 x hb]
      refine .inr ⟨by show (1 : Int) ≠ 2; decide, hb, ?_⟩
      obtain ⟨k', hk', e1⟩ : ∃ k', (k' = k ∨ k' = k + 1) ∧ x = pt m i k' := hb.1.elim (fun h => ⟨k, .inl rfl, h⟩) fun h => ⟨k + 1, .inr rfl, h⟩
      obtain ⟨n', hn', e2⟩ : ∃ n', (n' = n ∨ n' = n + 1) ∧ x = pt m j n' := hb.2.elim (fun h => ⟨n, .inl rfl, h⟩) fun h => ⟨n + 1, .inr rfl, h⟩
      obtain ⟨hk1, hk2⟩ := hk
      obtain ⟨hn1, hn2⟩ := hn
      by_cases hs : i = j ∧ k' = n'
      · obtain ⟨a, b⟩ := hs
        subst a; subst b
        have hk3 : k' = k := by omega
        refine .inl ⟨rfl, by omega, by rw [e1, hk3]⟩
      · right
        show ndB (arc m i) k x = true ∧ ndB (arc m j) n x = true
        have n1 : ¬ (0 < k' ∧ k' + 1 < (arc m i).length) := fun c => hs (hin i k' j n' ⟨hk1, by omega⟩ c.1 c.2 ⟨hn1, by omega⟩ (e1.symm.trans e2))
        have n2 : ¬ (0 < n' ∧ n' + 1 < (arc m j).length) := fun c => hs (by
          obtain ⟨a, b⟩ := hin j n' i k' ⟨hn1, by omega⟩ c.1 c.2 ⟨hk1, by omega⟩ (e2.symm.trans e1)
          exact ⟨a.symm, b.symm⟩)
        constructor
        · rw [ndB_iff]
          by_cases c : k' = 0
          · left; subst c; exact ⟨by omega, e1⟩
          · right
            have : k' = (arc m i).length - 1 := by omega
            exact ⟨by omega, by rw [e1, this]; rfl⟩
        · rw [ndB_iff]
          by_cases c : n' = 0
          · left; subst c; exact ⟨by omega, e2⟩
          · right
            have : n' = (arc m j).length - 1 := by omega
            exact ⟨by omega, by rw [e2, this]; rfl⟩
    · left
      exact q.1 fun x hx => hb ⟨x, hx⟩
/-! ### counting -/
theorem count_two {l : List Sp} {t : Nat} (ht : t < l.length) : 1 < l.count (at_ l t) ↔ ∃ u, u < l.length ∧ u ≠ t ∧ at_ l u = at_ l t := by
  have hat : ∀ k, k < l.length → at_ l k = l[k]?.getD (0, 0) := fun k _ => by unfold at_; rw [List.getD_eq_getElem?_getD]
  have e : l = l.take t ++ at_ l t :: l.drop (t + 1) := by
    have : at_ l t = l[t] := by rw [hat t ht, List.getElem?_eq_getElem ht]; rfl
    rw [this, List.getElem_cons_drop, List.take_append_drop]
  constructor
  · intro h
    have h2 : l.count (at_ l t) = (l.take t).count (at_ l t) + (1 + (l.drop (t + 1)).count (at_ l t)) := by
      conv => lhs; rw [e]
      rw [List.count_append, List.count_cons]
      have : ∀ c : Sp, (if (c == c) = true then 1 else 0) = 1 := fun c => by simp
      rw [← e]
      simp
      omega
    have h3 : 0 < (l.take t).count (at_ l t) ∨ 0 < (l.drop (t + 1)).count (at_ l t) := by omega
    rcases h3 with h3 | h3
    · obtain ⟨u, hu, e2⟩ := List.getElem_of_mem (List.count_pos_iff.1 h3)
      rw [List.length_take] at hu
      refine ⟨u, by omega, by omega, ?_⟩
      rw [hat u (by omega), List.getElem?_eq_getElem (by omega), ← e2, List.getElem_take]
      rfl
    · obtain ⟨u, hu, e2⟩ := List.getElem_of_mem (List.count_pos_iff.1 h3)
      rw [List.length_drop] at hu
      refine ⟨t + 1 + u, by omega, by omega, ?_⟩
      rw [hat _ (by omega), List.getElem?_eq_getElem (by omega), ← e2, List.getElem_drop]
      rfl
  · rintro ⟨u, hu, hne, e2⟩
    have h2 : l.count (at_ l t) = (l.take t).count (at_ l t) + (1 + (l.drop (t + 1)).count (at_ l t)) := by
      conv => lhs; rw [e]
      rw [List.count_append, List.count_cons]
      rw [← e]
      simp
      omega
    have : 0 < (l.take t).count (at_ l t) ∨ 0 < (l.drop (t + 1)).count (at_ l t) := by
      rw [List.count_pos_iff, List.count_pos_iff]
      rw [hat u hu, List.getElem?_eq_getElem hu] at e2
      rw [← e2]
      rcases Nat.lt_or_ge u t with c | c
      · left
        refine List.mem_iff_getElem.2 ⟨u, by rw [List.length_take]; omega, ?_⟩
        rw [List.getElem_take]; rfl
      · right
        refine List.mem_iff_getElem.2 ⟨u - (t + 1), by rw [List.length_drop]; omega, ?_⟩
        rw [List.getElem_drop]
        show l[t + 1 + (u - (t + 1))] = _
        congr 1
        omega
    omega
theorem flat_split {m : Arcs} {i : Nat} (hi : i < m.length) : m = m.take i ++ arc m i :: m.drop (i + 1) := by
  have : arc m i = m[i] := by unfold arc; rw [List.getD_eq_getElem?_getD, List.getElem?_eq_getElem hi]; rfl
  rw [this, List.getElem_cons_drop, List.take_append_drop]
theorem flat_count {m : Arcs} {i : Nat} (hi : i < m.length) (p : Sp) : m.flatten.count p = (m.take i).flatten.count p + (arc m i).count p + (m.drop (i + 1)).flatten.count p := by
  conv => lhs; rw [flat_split hi]
  rw [List.flatten_append, List.flatten_cons, List.count_append, List.count_append]
  omega
theorem mem_flat {m : Arcs} {p : Sp} : p ∈ m.flatten ↔ ∃ j u, inM m j u ∧ pt m j u = p := by
  rw [List.mem_flatten]
  constructor
  · rintro ⟨l, hl, hp⟩
    obtain ⟨j, hj, rfl⟩ := List.getElem_of_mem hl
    obtain ⟨u, hu, rfl⟩ := List.getElem_of_mem hp
    have e : arc m j = m[j] := by unfold arc; rw [List.getD_eq_getElem?_getD, List.getElem?_eq_getElem hj]; rfl
    refine ⟨j, u, ⟨hj, by rw [e]; exact hu⟩, ?_⟩
    unfold pt at_
    rw [e, List.getD_eq_getElem?_getD, List.getElem?_eq_getElem hu]; rfl
  · rintro ⟨j, u, ⟨hj, hu⟩, rfl⟩
    have e : arc m j = m[j] := by unfold arc; rw [List.getD_eq_getElem?_getD, List.getElem?_eq_getElem hj]; rfl
    refine ⟨m[j], List.getElem_mem hj, ?_⟩
    unfold pt at_
    rw [e] at hu ⊢
    rw [List.getD_eq_getElem?_getD, List.getElem?_eq_getElem hu]
    exact List.getElem_mem hu
theorem count_more {m : Arcs} {i t : Nat} (h : inM m i t) : 1 < m.flatten.count (pt m i t) ↔ ∃ j u, inM m j u ∧ ¬ (i = j ∧ t = u) ∧ pt m i t = pt m j u := by
  have e := flat_count h.1 (pt m i t)
  have hself : 0 < (arc m i).count (pt m i t) := by
    rw [List.count_pos_iff]
    unfold pt at_
    rw [List.getD_eq_getElem?_getD, List.getElem?_eq_getElem h.2]
    exact List.getElem_mem h.2
  have arc_take : ∀ j, j < i → arc (m.take i) j = arc m j := fun j hj => by
    unfold arc
    rw [List.getD_eq_getElem?_getD, List.getD_eq_getElem?_getD, List.getElem?_take, if_pos hj]
  have arc_drop : ∀ j, arc (m.drop (i + 1)) j = arc m (i + 1 + j) := fun j => by
    unfold arc
    rw [List.getD_eq_getElem?_getD, List.getD_eq_getElem?_getD, List.getElem?_drop]
  constructor
  · intro hc
    have h3 : 0 < (m.take i).flatten.count (pt m i t) ∨ 1 < (arc m i).count (pt m i t) ∨ 0 < (m.drop (i + 1)).flatten.count (pt m i t) := by omega
    rcases h3 with h3 | h3 | h3
    · obtain ⟨j, u, ⟨a, b⟩, c⟩ := mem_flat.1 (List.count_pos_iff.1 h3)
      rw [List.length_take] at a
      rw [arc_take j (by omega)] at b
      unfold pt at c
      rw [arc_take j (by omega)] at c
      exact ⟨j, u, ⟨by omega, b⟩, by omega, c.symm⟩
    · obtain ⟨u, a, b, c⟩ := (count_two h.2).1 h3
      exact ⟨i, u, ⟨h.1, a⟩, by omega, c.symm⟩
    · obtain ⟨j, u, ⟨a, b⟩, c⟩ := mem_flat.1 (List.count_pos_iff.1 h3)
      rw [List.length_drop] at a
      rw [arc_drop j] at b
      unfold pt at c
      rw [arc_drop j] at c
      exact ⟨i + 1 + j, u, ⟨by omega, b⟩, by omega, c.symm⟩
  · rintro ⟨j, u, ⟨a, b⟩, c, d⟩
    rcases Nat.lt_trichotomy j i with g | g | g
    · have : 0 < (m.take i).flatten.count (pt m i t) := by
        rw [List.count_pos_iff, mem_flat]
        refine ⟨j, u, ⟨by rw [List.length_take]; omega, by rw [arc_take j g]; exact b⟩, ?_⟩
        rw [d]; unfold pt; rw [arc_take j g]
      omega
    · subst g
      have : 1 < (arc m j).count (pt m j t) := (count_two h.2).2 ⟨u, b, fun e => c ⟨rfl, e.symm⟩, d.symm⟩
      omega
    · have : 0 < (m.drop (i + 1)).flatten.count (pt m i t) := by
        rw [List.count_pos_iff, mem_flat]
        have e2 := arc_drop (j - (i + 1))
        rw [show i + 1 + (j - (i + 1)) = j by omega] at e2
        refine ⟨j - (i + 1), u, ⟨by rw [List.length_drop]; omega, by rw [e2]; exact b⟩, ?_⟩
        rw [d]; unfold pt; rw [e2]
      omega
/-- inner places that another one has too, by counting -/
theorem inOnce_iff {m : Arcs} : inOnce m ↔ ∀ i t, inM m i t → 0 < t → t + 1 < (arc m i).length → ¬ 1 < m.flatten.count (pt m i t) := by
  constructor
  · intro h i t hi h0 ht hc
    obtain ⟨j, u, a, b, c⟩ := (count_more hi).1 hc
    exact b (h i t j u hi h0 ht a c)
  · intro h i t j u hi h0 ht hj e
    refine Classical.byContradiction fun c => h i t hi h0 ht ((count_more hi).2 ⟨j, u, hj, c, e⟩)
end Shp
/-
  Plain facts on a right map: two ways from one place have different directions (no program in sight).
-/
namespace Shp
def btw (u v : Sp) : Prop := (min 0 v.1 ≤ u.1 ∧ u.1 ≤ max 0 v.1) ∧ (min 0 v.2 ≤ u.2 ∧ u.2 ≤ max 0 v.2)
theorem btw_ng {u v : Sp} : btw (ng u) (ng v) ↔ btw u v := by unfold btw ng; simp only; omega
theorem le_of_mul {a b c : Int} (hc : 0 < c) (h : a * c ≤ b * c) : a ≤ b := Int.le_of_mul_le_mul_right h hc
theorem up_btw1 {u v : Sp} (hu : 0 < u.2) (hv : 0 < v.2) (h : cross u v = 0) (hl : u.2 ≤ v.2) : btw u v := by
  unfold cross at h
  have e : u.1 * v.2 = v.1 * u.2 := by omega
  unfold btw
  rcases Int.lt_or_le v.1 0 with c | c
  · have h1 : u.1 ≤ 0 := by
      have : v.1 * u.2 ≤ 0 := Int.mul_nonpos_of_nonpos_of_nonneg (by omega) (by omega)
      exact le_of_mul hv (by rw [e, Int.zero_mul]; exact this)
    have h2 : v.1 ≤ u.1 := le_of_mul hv (by
      rw [e]
      exact Int.mul_le_mul_of_nonpos_left (by omega) hl)
    omega
  · have h1 : 0 ≤ u.1 := by
      have : 0 ≤ v.1 * u.2 := Int.mul_nonneg c (by omega)
      exact le_of_mul hv (by rw [e, Int.zero_mul]; exact this)
    have h2 : u.1 ≤ v.1 := le_of_mul hv (by
      rw [e]
      exact Int.mul_le_mul_of_nonneg_left hl c)
    omega
theorem up_btw {u v : Sp} (hu : UP u) (hv : UP v) (h : cross u v = 0) : btw u v ∨ btw v u := by
  have hs : cross v u = 0 := by rw [cross_swap u v, h]; rfl
  rcases hu with hu | ⟨hu, hu1⟩
  · rcases hv with hv | ⟨hv, hv1⟩
    · rcases Int.le_total u.2 v.2 with c | c
      · exact .inl (up_btw1 hu hv h c)
      · exact .inr (up_btw1 hv hu hs c)
    · have := Int.mul_pos hv1 hu
      unfold cross at h
      rw [hv] at h
      simp at h
      omega
  · rcases hv with hv | ⟨hv, hv1⟩
    · have := Int.mul_pos hu1 hv
      unfold cross at h
      rw [hu] at h
      simp at h
      omega
    · unfold btw
      omega
theorem trn_zero {d e : Sp} (hd : d ≠ (0, 0)) (he : e ≠ (0, 0)) (h : trn d e = 0) : cross d e = 0 ∧ (btw d e ∨ btw e d) := by
  have h1 : ¬ trn d e < 0 := by omega
  have h2 : ¬ trn e d < 0 := by rw [trn_swap d e]; omega
  rw [trn_lt] at h1 h2
  obtain ⟨u, hu, hu'⟩ := up_or hd
  obtain ⟨v, hv, hv'⟩ := up_or he
  have s := cross_swap d e
  have hc : cross d e = 0 := by omega
  refine ⟨hc, ?_⟩
  rcases hu' with ⟨e1, f1⟩ | ⟨e1, f1⟩ <;> rcases hv' with ⟨e2, f2⟩ | ⟨e2, f2⟩
  · subst e1; subst e2; exact up_btw hu hv hc
  · omega
  · omega
  · subst e1; subst e2
    rw [btw_ng, btw_ng]
    exact up_btw hu hv (by simp only [cross_ng_l, cross_ng_r] at hc; omega)
theorem side_sub (p q r : Sp) : side p q r = cross (sub q p) (sub r p) := by
  unfold side cross sub
  simp only
  rw [Int.mul_comm (r.1 - p.1)]
theorem on_btw {p q r : Sp} (hc : cross (sub q p) (sub r p) = 0) (h : btw (sub r p) (sub q p)) : on p q r = true := by
  unfold on
  rw [side_sub, hc]
  unfold btw sub at h
  simp only at h
  simp only [Bool.and_eq_true, decide_eq_true_eq, beq_self_eq_true, true_and]
  omega
theorem crs_swap (p q r s : Sp) : crs q p r s = crs p q r s := by
  unfold crs
  rw [side_swap p q r, side_swap p q s, sg_neg, sg_neg, Int.neg_mul_neg, Int.mul_comm (sgZ (side r s q))]
theorem meet_swap (p q r s : Sp) : meet q p r s = meet p q r s := by
  rw [Bool.eq_iff_iff, meet_iff, meet_iff, crs_swap]
  simp only [tch_iff, sam_iff, on_swap p q]
  constructor
  · rintro (⟨a, b, c⟩ | ⟨a, b, c⟩ | h | h | (⟨a, b⟩ | ⟨a, b⟩) | h)
    · exact .inl ⟨a, c, b⟩
    · exact .inr (.inl ⟨a, c, b⟩)
    · exact .inr (.inr (.inr (.inl h)))
    · exact .inr (.inr (.inl h))
    · exact .inr (.inr (.inr (.inr (.inl (.inr ⟨b, a⟩)))))
    · exact .inr (.inr (.inr (.inr (.inl (.inl ⟨b, a⟩)))))
    · simp [h]
  · rintro (⟨a, b, c⟩ | ⟨a, b, c⟩ | h | h | (⟨a, b⟩ | ⟨a, b⟩) | h)
    · exact .inl ⟨a, c, b⟩
    · exact .inr (.inl ⟨a, c, b⟩)
    · exact .inr (.inr (.inr (.inl h)))
    · exact .inr (.inr (.inl h))
    · exact .inr (.inr (.inr (.inr (.inl (.inr ⟨b, a⟩)))))
    · exact .inr (.inr (.inr (.inr (.inl (.inl ⟨b, a⟩)))))
    · simp [h]
/-- two pieces from one place in one direction meet -/
theorem meet_dir {p q s : Sp} (hq : q ≠ p) (hs : s ≠ p) (h : trn (sub q p) (sub s p) = 0) : meet p q p s = true := by
  have z : ∀ x : Sp, x ≠ p → sub x p ≠ (0, 0) := fun x hx e => hx (by
    unfold sub at e
    simp only [Prod.mk.injEq] at e
    exact Prod.ext (by omega) (by omega))
  obtain ⟨hc, hb⟩ := trn_zero (z q hq) (z s hs) h
  rw [meet_iff]
  by_cases e : q = s
  · exact .inr (.inr (.inr (.inr (.inl ((sam_iff _ _ _ _).2 (.inl ⟨rfl, e⟩))))))
  · rcases hb with hb | hb
    · refine .inr (.inr (.inr (.inl ((tch_iff _ _ _).2 ⟨on_btw ?_ hb, hq, e⟩))))
      rw [cross_swap, hc]; rfl
    · exact .inr (.inl ((tch_iff _ _ _).2 ⟨on_btw hc hb, hs, fun h => e h.symm⟩))
/-- a right map -/
structure Right (m : Arcs) : Prop where
  two : ∀ i, i < m.length → 2 ≤ (arc m i).length
  four : ∀ i, i < m.length → at_ (arc m i) 0 = at_ (arc m i) ((arc m i).length - 1) → 4 ≤ (arc m i).length
  step : step1 m
  meets : noMeet m
  once : inOnce m
theorem Right.meet2 {m : Arcs} (R : Right m) {i k j n : Nat} (hk : isP m i k) (hn : isP m j n) (h : ¬ (i = j ∧ k = n)) : meet (pt m i k) (pt m i (k + 1)) (pt m j n) (pt m j (n + 1)) = false := by
  by_cases c : j < i ∨ (j = i ∧ n < k)
  · rw [← meet_comm]; exact R.meets i k j n hk hn c
  · exact R.meets j n i k hn hk (by omega)
/-- a way's piece: where it lies in the map -/
def wi (w : Int) : Nat := w.natAbs - 1
def wk (m : Arcs) (w : Int) : Nat := if 0 < w then 0 else (arcOf m w).length - 2
theorem arcOf_eq (m : Arcs) (w : Int) : arcOf m w = arc m (wi w) := rfl
theorem way_piece {m : Arcs} (R : Right m) {w : Int} (hw : isWay m w) : isP m (wi w) (wk m w) ∧ ((frm m w = pt m (wi w) (wk m w) ∧ nxp m w = pt m (wi w) (wk m w + 1)) ∨ (frm m w = pt m (wi w) (wk m w + 1) ∧ nxp m w = pt m (wi w) (wk m w))) := by
  obtain ⟨h0, h1⟩ := hw
  have hi : wi w < m.length := by unfold wi; omega
  have h2 := R.two _ hi
  have ea := arcOf_eq m w
  unfold wk frm nxp isP pt
  rw [ea]
  by_cases c : 0 < w
  · simp only [if_pos c]
    exact ⟨⟨hi, by omega⟩, .inl (by simp)⟩
  · simp only [if_neg c]
    refine ⟨⟨hi, by omega⟩, .inr ?_⟩
    rw [show (arc m (wi w)).length - 2 + 1 = (arc m (wi w)).length - 1 by omega]
    simp
theorem nx_ne {m : Arcs} (R : Right m) {w : Int} (hw : isWay m w) : nxp m w ≠ frm m w := by
  obtain ⟨h1, h2 | h2⟩ := way_piece R hw
  · rw [h2.1, h2.2]; exact (R.step _ _ h1).symm
  · rw [h2.1, h2.2]; exact R.step _ _ h1
theorem dr_ne {m : Arcs} (R : Right m) {w : Int} (hw : isWay m w) : dr m w ≠ (0, 0) := fun e => nx_ne R hw (by
  unfold dr sub at e
  simp only [Prod.mk.injEq] at e
  exact Prod.ext (by omega) (by omega))
theorem piece_ne {m : Arcs} (R : Right m) {v w : Int} (hv : isWay m v) (hw : isWay m w) (hf : frm m v = frm m w) (hne : v ≠ w) : ¬ (wi v = wi w ∧ wk m v = wk m w) := by
  rintro ⟨a, b⟩
  obtain ⟨v0, v1⟩ := hv
  obtain ⟨w0, w1⟩ := hw
  have hvw : v = -w := by unfold wi at a; omega
  have hi : wi w < m.length := by unfold wi; omega
  have h2 := R.two _ hi
  have h4 := R.four _ hi
  have e1 := arcOf_eq m w
  have e2 := arcOf_eq m v
  rw [a] at e2
  unfold wk at b
  unfold frm at hf
  rw [e1, e2] at b hf
  by_cases c : 0 < w
  · rw [if_neg (by omega), if_pos c] at b hf
    have := h4 hf.symm
    omega
  · rw [if_pos (by omega), if_neg c] at b hf
    have := h4 hf
    omega
theorem dr_diff {m : Arcs} (R : Right m) {v w : Int} (hv : isWay m v) (hw : isWay m w) (hf : frm m v = frm m w) (hne : v ≠ w) : trn (dr m v) (dr m w) ≠ 0 := fun h => by
  obtain ⟨p1, d1⟩ := way_piece R hv
  obtain ⟨p2, d2⟩ := way_piece R hw
  have hm := R.meet2 p1 p2 (piece_ne R hv hw hf hne)
  have hh : meet (frm m v) (nxp m v) (frm m v) (nxp m w) = true := by
    refine meet_dir (nx_ne R hv) (by rw [hf]; exact nx_ne R hw) ?_
    unfold dr at h
    rw [← hf] at h
    exact h
  have key : meet (frm m v) (nxp m v) (frm m w) (nxp m w) = meet (pt m (wi v) (wk m v)) (pt m (wi v) (wk m v + 1)) (pt m (wi w) (wk m w)) (pt m (wi w) (wk m w + 1)) := by
    rcases d1 with ⟨a, b⟩ | ⟨a, b⟩ <;> rcases d2 with ⟨c, d⟩ | ⟨c, d⟩ <;> rw [a, b, c, d]
    · rw [← meet_comm, meet_swap, meet_comm]
    · rw [meet_swap]
    · rw [meet_swap, ← meet_comm, meet_swap, meet_comm]
  rw [← key, ← hf, hh] at hm
  cases hm
end Shp
/-
  Plain facts on rounds: a round goes on until a way is gone already; all of them (no program in sight).
-/
namespace Shp
/-- a round from w on, where the ways g are gone; so many ways at most -/
def rd (nf : Int → Int) : Nat → List Int → Int → List Int
  | 0, _, _ => []
  | f + 1, g, w => if w ∈ g then [] else w :: rd nf f (w :: g) (nf w)
/-- what is gone is a set of ways -/
structure Gn (n : Nat) (g : List Int) : Prop where
  nodup : g.Nodup
  ways : ∀ v ∈ g, v ≠ 0 ∧ v.natAbs ≤ n
theorem wl_length : ∀ k, (wl k).length = 2 * k
  | 0 => rfl
  | k + 1 => by rw [wl, List.length_append, wl_length k]; simp; omega
theorem nodup_len {α : Type} [DecidableEq α] : ∀ (g l : List α), g.Nodup → (∀ v ∈ g, v ∈ l) → g.length ≤ l.length
  | [], _, _, _ => Nat.zero_le _
  | x :: g, l, hn, hs => by
    have hx : x ∈ l := hs x (List.mem_cons_self ..)
    obtain ⟨h1, h2⟩ := List.nodup_cons.1 hn
    have := nodup_len g (l.erase x) h2 fun v hv => by
      have hne : v ≠ x := fun e => h1 (e ▸ hv)
      exact (List.mem_erase_of_ne hne).2 (hs v (List.mem_cons_of_mem _ hv))
    rw [List.length_erase_of_mem hx] at this
    have := List.length_pos_of_mem hx
    simp only [List.length_cons]
    omega
theorem Gn.len {n : Nat} {g : List Int} (h : Gn n g) : g.length ≤ 2 * n := by
  have := nodup_len g (wl n) h.nodup fun v hv => (mem_wl _ _).2 (h.ways v hv)
  rw [wl_length] at this
  exact this
theorem Gn.cons {n : Nat} {g : List Int} (h : Gn n g) {w : Int} (hw : w ≠ 0 ∧ w.natAbs ≤ n) (hg : w ∉ g) : Gn n (w :: g) :=
  ⟨List.nodup_cons.2 ⟨hg, h.nodup⟩, fun v hv => (List.mem_cons.1 hv).elim (fun e => e ▸ hw) (h.ways v)⟩
theorem rd_in {nf : Int → Int} {f : Nat} {g : List Int} {w : Int} (h : w ∈ g) : rd nf f g w = [] := by
  cases f
  · rfl
  · unfold rd; rw [if_pos h]
theorem rd_out {nf : Int → Int} {f : Nat} {g : List Int} {w : Int} (h : w ∉ g) : rd nf (f + 1) g w = w :: rd nf f (w :: g) (nf w) := by
  conv => lhs; unfold rd
  rw [if_neg h]
def ways (n : Nat) (nf : Int → Int) : Prop := ∀ w, w ≠ 0 ∧ w.natAbs ≤ n → nf w ≠ 0 ∧ (nf w).natAbs ≤ n
theorem rd_gone {n : Nat} {nf : Int → Int} (hnf : ways n nf) : ∀ (f : Nat) (g : List Int) (w : Int), Gn n g → w ≠ 0 ∧ w.natAbs ≤ n → Gn n ((rd nf f g w).reverse ++ g)
  | 0, g, w, hg, _ => hg
  | f + 1, g, w, hg, hw => by
    by_cases h : w ∈ g
    · rw [rd_in h]; exact hg
    · rw [rd_out h, List.reverse_cons, List.append_assoc]
      exact rd_gone hnf f (w :: g) (nf w) (hg.cons hw h) (hnf w hw)
theorem rd_congr {n : Nat} {nf nf' : Int → Int} (hnf : ways n nf) (h : ∀ w, w ≠ 0 ∧ w.natAbs ≤ n → nf w = nf' w) : ∀ (f : Nat) (g : List Int) (w : Int), w ≠ 0 ∧ w.natAbs ≤ n → rd nf f g w = rd nf' f g w
  | 0, _, _, _ => rfl
  | f + 1, g, w, hw => by
    by_cases hg : w ∈ g
    · rw [rd_in hg, rd_in hg]
    · rw [rd_out hg, rd_out hg, ← h w hw, rd_congr hnf h f _ _ (hnf w hw)]
theorem rd_way {n : Nat} {nf : Int → Int} (hnf : ways n nf) : ∀ (f : Nat) (g : List Int) (w : Int), w ≠ 0 ∧ w.natAbs ≤ n → ∀ v ∈ rd nf f g w, v ≠ 0 ∧ v.natAbs ≤ n
  | 0, _, _, _, v, hv => by cases hv
  | f + 1, g, w, hw, v, hv => by
    by_cases hg : w ∈ g
    · rw [rd_in hg] at hv; cases hv
    · rw [rd_out hg] at hv
      rcases List.mem_cons.1 hv with e | e
      · rw [e]; exact hw
      · exact rd_way hnf f _ _ (hnf w hw) v e
/-- one round more, if there is any -/
def ad (l : List Int) : List (List Int) := if l = [] then [] else [l]
/-- rounds, from these ways on -/
def rnd (nf : Int → Int) (n : Nat) : List Int → List Int → List (List Int)
  | [], _ => []
  | w :: ws, g => ad (rd nf (2 * n + 1 - g.length) g w) ++ rnd nf n ws ((rd nf (2 * n + 1 - g.length) g w).reverse ++ g)
/-- the ways in the order of the rounds -/
def wf : Nat → List Int
  | 0 => []
  | k + 1 => wf k ++ [(k : Int) + 1, -((k : Int) + 1)]
def rounds (nf : Int → Int) (n : Nat) : List (List Int) := rnd nf n (wf n) []
theorem mem_wf : ∀ (k : Nat) (v : Int), v ∈ wf k ↔ v ≠ 0 ∧ v.natAbs ≤ k
  | 0, v => by simp [wf]
  | k + 1, v => by
    simp only [wf, List.mem_append, List.mem_cons, List.not_mem_nil, or_false, mem_wf k v]
    omega
theorem wf_length : ∀ k, (wf k).length = 2 * k
  | 0 => rfl
  | k + 1 => by rw [wf, List.length_append, wf_length k]; simp; omega
theorem wf_get : ∀ (k i : Nat), i < k → (wf k)[2 * i]? = some ((i : Int) + 1) ∧ (wf k)[2 * i + 1]? = some (-((i : Int) + 1))
  | 0, _, h => absurd h (Nat.not_lt_zero _)
  | k + 1, i, h => by
    have hl := wf_length k
    rcases Nat.lt_or_ge i k with c | c
    · obtain ⟨a, b⟩ := wf_get k i c
      rw [wf, List.getElem?_append_left (by omega), List.getElem?_append_left (by omega)]
      exact ⟨a, b⟩
    · have : i = k := by omega
      subst this
      rw [wf, List.getElem?_append_right (by omega), List.getElem?_append_right (by omega), hl]
      rw [show 2 * i - 2 * i = 0 by omega, show 2 * i + 1 - 2 * i = 1 by omega]
      exact ⟨rfl, rfl⟩
theorem rnd_congr {n : Nat} {nf nf' : Int → Int} (hnf : ways n nf) (h : ∀ w, w ≠ 0 ∧ w.natAbs ≤ n → nf w = nf' w) : ∀ (ws : List Int), (∀ w ∈ ws, w ≠ 0 ∧ w.natAbs ≤ n) → ∀ g, rnd nf n ws g = rnd nf' n ws g
  | [], _, _ => rfl
  | w :: ws, hw, g => by
    unfold rnd
    rw [rd_congr hnf h _ g w (hw w (List.mem_cons_self ..)), rnd_congr hnf h ws (fun v hv => hw v (List.mem_cons_of_mem _ hv))]
theorem rounds_congr {n : Nat} {nf nf' : Int → Int} (hnf : ways n nf) (h : ∀ w, w ≠ 0 ∧ w.natAbs ≤ n → nf w = nf' w) : rounds nf n = rounds nf' n :=
  rnd_congr hnf h _ (fun w hw => (mem_wf n w).1 hw) []
theorem nof_way {m : Arcs} : ways m.length (nof m) := fun w hw => by
  have hst : ∀ (xs : List Int), (∀ v ∈ xs, isWay m v) → ∀ st : Int × Sp, (st.1 = 0 ∨ isWay m st.1) → ((xs.foldl (nst m w) st).1 = 0 ∨ isWay m (xs.foldl (nst m w) st).1) := by
    intro xs
    induction xs with
    | nil => exact fun _ st h => h
    | cons v xs ih =>
      intro hx st h
      rw [List.foldl_cons]
      refine ih (fun u hu => hx u (List.mem_cons_of_mem _ hu)) _ ?_
      unfold nst
      split
      · exact h
      · split
        · exact .inr (hx v (List.mem_cons_self ..))
        · exact h
  unfold nof
  rcases hst (wl m.length) (fun v hv => (mem_wl _ _).1 hv) (0, (0, 0)) (.inl rfl) with h | h
  · rw [if_pos h]; omega
  · rw [if_neg h.1]; exact h
/-! ### the points of a round, their area -/
def wpts (m : Arcs) (w : Int) : List Sp := (if w < 0 then (arcOf m w).reverse else arcOf m w).dropLast
def pts (m : Arcs) (l : List Int) : List Sp := l.flatMap (wpts m)
def fanA (l : List Sp) : Int := fan l (l.length - 2)
theorem fanA_area (l : List Sp) : fanA l = area l := by
  unfold fanA
  match l with
  | [] => rfl
  | [p] =>
    simp [fan, area, areaTo, sumTo, nx, at_, cross_self]
  | [p, q] =>
    have := cross_swap p q
    simp [fan, area, areaTo, sumTo, nx, at_]
    omega
  | p :: q :: r :: l => exact fan_area _ (by simp)
end Shp
/-
  Plain facts on a triangle: in it or on its edges, told by the code and by the document (no program in sight).
-/
namespace Shp
def tri (p q r x : Sp) : Bool :=
  if side p q r = 0 then on p q x || on q r x || on r p x
  else !(decide (sgZ (side p q x) < 0) || decide (sgZ (side q r x) < 0) || decide (sgZ (side r p x) < 0)) || !(decide (0 < sgZ (side p q x)) || decide (0 < sgZ (side q r x)) || decide (0 < sgZ (side r p x)))
def tri2 (p q r x : Sp) : Bool :=
  if (on p q x || on q r x || on r p x) = true then true
  else decide (sgZ (side p q x) = sgZ (side q r x)) && decide (sgZ (side q r x) = sgZ (side r p x)) && !decide (sgZ (side p q x) = 0)
theorem tri_sum (p q r x : Sp) : side p q x + side q r x + side r p x = side p q r := by
  rw [← turn_side, ← turn_side, ← turn_side, ← turn_side, turn_cross, turn_cross, turn_cross, turn_cross, cross_swap r x, cross_swap q x, cross_swap p x]
  have q1 := cross_swap x p
  have q2 := cross_swap x q
  have q3 := cross_swap x r
  have := cross_swap p q
  have := cross_swap q r
  have := cross_swap r p
  have := cross_swap p x
  have := cross_swap q x
  have := cross_swap r x
  omega
theorem side_rot (p q r : Sp) : side q r p = side p q r := by
  rw [← turn_side, ← turn_side, turn_cross, turn_cross]; omega
theorem sg_gt (x : Int) : 0 < sgZ x ↔ 0 < x := by unfold sgZ; split <;> (try split) <;> omega
theorem sg_zero (x : Int) : sgZ x = 0 ↔ x = 0 := by unfold sgZ; split <;> (try split) <;> omega
/-- where a point lies, weighed by the triangles that it makes -/
theorem bary (p q r x : Sp) : (x.1 - p.1) * side p q r = side p q x * (r.1 - p.1) + side r p x * (q.1 - p.1) ∧ (x.2 - p.2) * side p q r = side p q x * (r.2 - p.2) + side r p x * (q.2 - p.2) := by
  obtain ⟨a, b⟩ := p; obtain ⟨c, d⟩ := q; obtain ⟨e, f⟩ := r; obtain ⟨g, h⟩ := x
  have e1 : ∃ u, c - a = u := ⟨_, rfl⟩
  have e2 : ∃ u, d - b = u := ⟨_, rfl⟩
  have e3 : ∃ u, e - a = u := ⟨_, rfl⟩
  have e4 : ∃ u, f - b = u := ⟨_, rfl⟩
  have e5 : ∃ u, g - a = u := ⟨_, rfl⟩
  have e6 : ∃ u, h - b = u := ⟨_, rfl⟩
  obtain ⟨u1, e1⟩ := e1; obtain ⟨u2, e2⟩ := e2; obtain ⟨u3, e3⟩ := e3; obtain ⟨u4, e4⟩ := e4; obtain ⟨u5, e5⟩ := e5; obtain ⟨u6, e6⟩ := e6
  have s1 : side (a, b) (c, d) (e, f) = u1 * u4 - u2 * u3 := by unfold side; simp only [e1, e2, e3, e4]
  have s2 : side (a, b) (c, d) (g, h) = u1 * u6 - u2 * u5 := by unfold side; simp only [e1, e2, e5, e6]
  have s3 : side (e, f) (a, b) (g, h) = u5 * u4 - u6 * u3 := by
    unfold side
    simp only
    rw [show a - e = -u3 by omega, show b - f = -u4 by omega, show g - e = u5 - u3 by omega, show h - f = u6 - u4 by omega]
    simp only [Int.mul_sub, Int.neg_mul]
    rw [Int.mul_comm u3 u6, Int.mul_comm u4 u5, Int.mul_comm u3 u4]
    omega
  rw [s1, s2, s3]
  simp only [e1, e2, e3, e4, e5, e6]
  constructor
  · simp only [Int.mul_sub, Int.sub_mul]
    have x1 : u5 * (u1 * u4) = u5 * u4 * u1 := by rw [Int.mul_comm u1 u4, Int.mul_assoc]
    have x2 : u5 * (u2 * u3) = u2 * u5 * u3 := by rw [Int.mul_comm u2 u5, Int.mul_assoc]
    have x3 : u1 * u6 * u3 = u6 * u3 * u1 := by rw [Int.mul_comm u1 u6, Int.mul_assoc, Int.mul_assoc, Int.mul_comm u1 u3]
    omega
  · simp only [Int.mul_sub, Int.sub_mul]
    have x1 : u6 * (u1 * u4) = u1 * u6 * u4 := by rw [Int.mul_comm u1 u6, Int.mul_assoc]
    have x2 : u6 * (u2 * u3) = u6 * u3 * u2 := by rw [Int.mul_comm u2 u3, Int.mul_assoc]
    have x3 : u2 * u5 * u4 = u5 * u4 * u2 := by rw [Int.mul_comm u2 u5, Int.mul_assoc, Int.mul_assoc, Int.mul_comm u2 u4]
    omega
/-- a share of a way along a line -/
theorem share {t u c D : Int} (hD : 0 < D) (h : t * D = c * u) (hc : 0 ≤ c) (hd : c ≤ D) : min 0 u ≤ t ∧ t ≤ max 0 u := by
  rcases Int.le_total 0 u with g | g
  · have h1 : 0 ≤ c * u := Int.mul_nonneg hc g
    have h2 : c * u ≤ D * u := Int.mul_le_mul_of_nonneg_right hd g
    have h3 : 0 ≤ t := le_of_mul hD (by rw [Int.zero_mul, h]; exact h1)
    have h4 : t ≤ u := le_of_mul hD (by rw [h, Int.mul_comm u D]; exact h2)
    omega
  · have h1 : c * u ≤ 0 := Int.mul_nonpos_of_nonneg_of_nonpos hc g
    have h2 : D * u ≤ c * u := Int.mul_le_mul_of_nonpos_right hd g
    have h3 : t ≤ 0 := le_of_mul hD (by rw [Int.zero_mul, h]; exact h1)
    have h4 : u ≤ t := le_of_mul hD (by rw [h, Int.mul_comm u D]; exact h2)
    omega
theorem unshare {t u c D : Int} (hD : 0 < D) (h : t * D = c * u) (h1 : min 0 u ≤ t) (h2 : t ≤ max 0 u) (hu : u ≠ 0) : 0 ≤ c ∧ c ≤ D := by
  rcases Int.lt_or_gt_of_ne hu with g | g
  · have h3 : t * D ≤ 0 := Int.mul_nonpos_of_nonpos_of_nonneg (by omega) (by omega)
    have h4 : u * D ≤ t * D := Int.mul_le_mul_of_nonneg_right (by omega) (by omega)
    rw [h] at h3 h4
    constructor
    · rcases Int.lt_or_le c 0 with k | k
      · have := Int.mul_pos_of_neg_of_neg k g; omega
      · exact k
    · rcases Int.lt_or_le D c with k | k
      · have : c * u < D * u := Int.mul_lt_mul_of_neg_right k g
        rw [Int.mul_comm u D] at h4; omega
      · exact k
  · have h3 : 0 ≤ t * D := Int.mul_nonneg (by omega) (by omega)
    have h4 : t * D ≤ u * D := Int.mul_le_mul_of_nonneg_right (by omega) (by omega)
    rw [h] at h3 h4
    constructor
    · rcases Int.lt_or_le c 0 with k | k
      · have := Int.mul_neg_of_neg_of_pos k g; omega
      · exact k
    · rcases Int.lt_or_le D c with k | k
      · have : D * u < c * u := Int.mul_lt_mul_of_pos_right k g
        rw [Int.mul_comm u D] at h4; omega
      · exact k
/-- on an edge: of a triangle that goes against the clock -/
theorem on_edge {p q r x : Sp} (hD : 0 < side p q r) (ha : side p q x = 0) : on p q x = true ↔ 0 ≤ side q r x ∧ 0 ≤ side r p x := by
  have hs := tri_sum p q r x
  obtain ⟨b1, b2⟩ := bary p q r x
  rw [ha, Int.zero_mul, Int.zero_add] at b1 b2
  have hon : on p q x = true ↔ (min 0 (q.1 - p.1) ≤ x.1 - p.1 ∧ x.1 - p.1 ≤ max 0 (q.1 - p.1)) ∧ (min 0 (q.2 - p.2) ≤ x.2 - p.2 ∧ x.2 - p.2 ≤ max 0 (q.2 - p.2)) := by
    unfold on
    rw [ha]
    simp only [Bool.and_eq_true, decide_eq_true_eq, beq_self_eq_true, true_and]
    omega
  rw [hon]
  constructor
  · rintro ⟨⟨h1, h2⟩, h3, h4⟩
    by_cases c : q.1 - p.1 = 0
    · by_cases d : q.2 - p.2 = 0
      · exfalso
        unfold side at hD
        rw [c, d] at hD
        simp at hD
      · have := unshare hD b2 h3 h4 d
        omega
    · have := unshare hD b1 h1 h2 c
      omega
  · rintro ⟨h1, h2⟩
    exact ⟨share hD b1 h2 (by omega), share hD b2 h2 (by omega)⟩
theorem tri_pos {p q r x : Sp} (hD : 0 < side p q r) : (on p q x || on q r x || on r p x) = true ↔ (0 ≤ side p q x ∧ 0 ≤ side q r x ∧ 0 ≤ side r p x) ∧ (side p q x = 0 ∨ side q r x = 0 ∨ side r p x = 0) := by
  have r1 := side_rot p q r
  have r2 := side_rot q r p
  have e1 := fun h => on_edge (x := x) hD h
  have e2 := fun h => on_edge (p := q) (q := r) (r := p) (x := x) (by omega) h
  have e3 := fun h => on_edge (p := r) (q := p) (r := q) (x := x) (by omega) h
  simp only [Bool.or_eq_true]
  constructor
  · rintro ((h | h) | h)
    · have := on_side h
      have := (e1 this).1 h
      omega
    · have := on_side h
      have := (e2 this).1 h
      omega
    · have := on_side h
      have := (e3 this).1 h
      omega
  · rintro ⟨⟨h1, h2, h3⟩, h | h | h⟩
    · exact .inl (.inl ((e1 h).2 ⟨h2, h3⟩))
    · exact .inl (.inr ((e2 h).2 ⟨h3, h1⟩))
    · exact .inr ((e3 h).2 ⟨h1, h2⟩)
theorem tri_any {p q r x : Sp} (hD : side p q r ≠ 0) : (on p q x || on q r x || on r p x) = true ↔ ((0 ≤ side p q x ∧ 0 ≤ side q r x ∧ 0 ≤ side r p x) ∨ (side p q x ≤ 0 ∧ side q r x ≤ 0 ∧ side r p x ≤ 0)) ∧ (side p q x = 0 ∨ side q r x = 0 ∨ side r p x = 0) := by
  have hs := tri_sum p q r x
  rcases Int.lt_or_gt_of_ne hD with c | c
  · have t := tri_pos (p := q) (q := p) (r := r) (x := x) (by rw [side_swap]; omega)
    have o : (on p q x || on q r x || on r p x) = (on q p x || on p r x || on r q x) := by
      rw [on_swap p q x, on_swap r p x, on_swap q r x, Bool.or_assoc, Bool.or_assoc, Bool.or_comm (on q r x)]
    rw [o, t, side_swap p q x, side_swap r p x, side_swap q r x]
    omega
  · rw [tri_pos c]
    omega
theorem tri_eq (p q r x : Sp) : tri p q r x = tri2 p q r x := by
  have hs := tri_sum p q r x
  unfold tri tri2
  by_cases hD : side p q r = 0
  · rw [if_pos hD]
    split
    · assumption
    · rename_i h
      rw [Bool.not_eq_true] at h
      rw [h, eq_comm, Bool.eq_false_iff]
      intro h2
      simp only [Bool.and_eq_true, decide_eq_true_eq, Bool.not_eq_true', decide_eq_false_iff_not] at h2
      have a1 := sg_lt (side p q x)
      have a2 := sg_lt (side q r x)
      have a3 := sg_lt (side r p x)
      have b1 := sg_gt (side p q x)
      have b2 := sg_gt (side q r x)
      have b3 := sg_gt (side r p x)
      omega
  · rw [if_neg hD]
    have t := tri_any (x := x) hD
    have a1 := sg_lt (side p q x)
    have a2 := sg_lt (side q r x)
    have a3 := sg_lt (side r p x)
    have b1 := sg_gt (side p q x)
    have b2 := sg_gt (side q r x)
    have b3 := sg_gt (side r p x)
    split
    · rename_i h
      rw [t] at h
      simp only [Bool.or_eq_true, Bool.not_eq_true', Bool.or_eq_false_iff, decide_eq_false_iff_not]
      omega
    · rename_i h
      rw [t] at h
      rw [Bool.eq_iff_iff]
      simp only [Bool.or_eq_true, Bool.and_eq_true, Bool.not_eq_true', Bool.or_eq_false_iff, decide_eq_false_iff_not, decide_eq_true_eq]
      have c1 : -1 ≤ sgZ (side p q x) ∧ sgZ (side p q x) ≤ 1 := by unfold sgZ; split <;> (try split) <;> omega
      have c2 : -1 ≤ sgZ (side q r x) ∧ sgZ (side q r x) ≤ 1 := by unfold sgZ; split <;> (try split) <;> omega
      have c3 : -1 ≤ sgZ (side r p x) ∧ sgZ (side r p x) ≤ 1 := by unfold sgZ; split <;> (try split) <;> omega
      omega
end Shp
/-
  Plain facts on a map that loses an inner point of an arc: when it stays right; which points can be spared, told by the code and by the document (no program in sight).
-/
namespace Shp
def del (m : Arcs) (i k : Nat) : Arcs := m.set i ((arc m i).eraseIdx k)
def old (k t : Nat) : Nat := if t < k then t else t + 1
theorem del_length (m : Arcs) (i k : Nat) : (del m i k).length = m.length := by simp [del]
theorem arc_del_ne {m : Arcs} {i k j : Nat} (h : j ≠ i) : arc (del m i k) j = arc m j := by
  unfold arc del
  rw [List.getD_eq_getElem?_getD, List.getD_eq_getElem?_getD, List.getElem?_set_ne (Ne.symm h)]
theorem arc_del {m : Arcs} {i k : Nat} (h : i < m.length) : arc (del m i k) i = (arc m i).eraseIdx k := by
  unfold arc del
  rw [List.getD_eq_getElem?_getD, List.getElem?_set_self h]
  rfl
theorem at_erase {l : List Sp} {k t : Nat} : at_ (l.eraseIdx k) t = at_ l (old k t) := by
  unfold at_ old
  rw [List.getD_eq_getElem?_getD, List.getD_eq_getElem?_getD, List.getElem?_eraseIdx]
  split <;> rfl
theorem pt_del {m : Arcs} {i k t : Nat} (h : i < m.length) : pt (del m i k) i t = pt m i (old k t) := by
  unfold pt; rw [arc_del h, at_erase]
theorem pt_del_ne {m : Arcs} {i k j t : Nat} (h : j ≠ i) : pt (del m i k) j t = pt m j t := by
  unfold pt; rw [arc_del_ne h]
theorem len_del {m : Arcs} {i k : Nat} (h : i < m.length) (hk : k < (arc m i).length) : (arc (del m i k) i).length = (arc m i).length - 1 := by
  rw [arc_del h, List.length_eraseIdx, if_pos hk]
theorem noMeet2 {m : Arcs} (h : noMeet m) {i k j n : Nat} (hk : isP m i k) (hn : isP m j n) (hne : ¬ (i = j ∧ k = n)) : meet (pt m i k) (pt m i (k + 1)) (pt m j n) (pt m j (n + 1)) = false := by
  by_cases c : j < i ∨ (j = i ∧ n < k)
  · rw [← meet_comm]; exact h i k j n hk hn c
  · exact h j n i k hn hk (by omega)
/-- the new piece meets none that is left -/
def fits (m : Arcs) (i k : Nat) : Prop := ∀ j n, isP m j n → ¬ (j = i ∧ (n = k ∨ n + 1 = k)) → meet (pt m i (k - 1)) (pt m i (k + 1)) (pt m j n) (pt m j (n + 1)) = false
section
variable {m : Arcs} {i k : Nat} (R : Right m) (hi : i < m.length) (h0 : 0 < k) (hk : k + 1 < (arc m i).length)
include R hi h0 hk
theorem ends_ne : pt m i (k - 1) ≠ pt m i (k + 1) := fun e => by
  have h1 : isP m i (k - 1) := ⟨hi, by omega⟩
  have h2 : isP m i k := ⟨hi, hk⟩
  have := R.meet2 h1 h2 (by omega)
  rw [show k - 1 + 1 = k by omega] at this
  have hm : meet (pt m i (k - 1)) (pt m i k) (pt m i k) (pt m i (k + 1)) = true := (meet_iff _ _ _ _).2 (.inr (.inr (.inr (.inr (.inl ((sam_iff _ _ _ _).2 (.inr ⟨e, rfl⟩)))))))
  rw [hm] at this
  cases this
omit R h0 in
theorem piece_del {j n : Nat} (h : isP (del m i k) j n) : (j = i ∧ n + 1 = k) ∨ ∃ n', isP m j n' ∧ pt (del m i k) j n = pt m j n' ∧ pt (del m i k) j (n + 1) = pt m j (n' + 1) ∧ ¬ (j = i ∧ (n' = k ∨ n' + 1 = k)) ∧ (j ≠ i → n' = n) ∧ (j = i → n' = old k n) := by
  obtain ⟨a, b⟩ := h
  rw [del_length] at a
  by_cases c : j = i
  · subst c
    rw [len_del hi (by omega)] at b
    rcases Nat.lt_trichotomy (n + 1) k with g | g | g
    · refine .inr ⟨n, ⟨a, by omega⟩, ?_, ?_, by omega, fun _ => rfl, fun _ => by unfold old; rw [if_pos (by omega)]⟩
      · rw [pt_del hi]; unfold old; rw [if_pos (by omega)]
      · rw [pt_del hi]; unfold old; rw [if_pos (by omega)]
    · exact .inl ⟨rfl, g⟩
    · refine .inr ⟨n + 1, ⟨a, by omega⟩, ?_, ?_, by omega, fun h => absurd rfl h, fun _ => by unfold old; rw [if_neg (by omega)]⟩
      · rw [pt_del hi]; unfold old; rw [if_neg (by omega)]
      · rw [pt_del hi]; unfold old; rw [if_neg (by omega)]
  · rw [arc_del_ne c] at b
    exact .inr ⟨n, ⟨a, b⟩, pt_del_ne c, pt_del_ne c, fun h => c h.1, fun _ => rfl, fun h => absurd h c⟩
omit R hk in
theorem new_del {n : Nat} (h : n + 1 = k) : pt (del m i k) i n = pt m i (k - 1) ∧ pt (del m i k) i (n + 1) = pt m i (k + 1) := by
  rw [pt_del hi, pt_del hi]
  unfold old
  rw [if_pos (by omega), if_neg (by omega), show k - 1 = n by omega, h]
  exact ⟨rfl, rfl⟩
theorem right_del (h4 : at_ (arc m i) 0 = at_ (arc m i) ((arc m i).length - 1) → 5 ≤ (arc m i).length) (hf : fits m i k) : Right (del m i k) := by
  have hki : k < (arc m i).length := by omega
  have hne := ends_ne R hi h0 hk
  refine ⟨fun j hj => ?_, fun j hj e => ?_, fun j n hn => ?_, fun j n j' n' hn hn' ho => ?_, fun j t j' t' hj ht1 ht2 hj' e => ?_⟩
  · rw [del_length] at hj
    by_cases c : j = i
    · subst c; rw [len_del hi hki]; omega
    · rw [arc_del_ne c]; exact R.two j hj
  · rw [del_length] at hj
    by_cases c : j = i
    · subst c
      rw [len_del hi hki] at e ⊢
      rw [arc_del hi, at_erase, at_erase] at e
      unfold old at e
      rw [if_pos h0, if_neg (by omega), show (arc m j).length - 1 - 1 + 1 = (arc m j).length - 1 by omega] at e
      have := h4 e
      omega
    · rw [arc_del_ne c] at e ⊢; exact R.four j hj e
  · rcases piece_del hi hk hn with ⟨a, b⟩ | ⟨n', a, b, c, _⟩
    · subst a
      obtain ⟨p1, p2⟩ := new_del hi h0 b
      rw [p1, p2]; exact hne
    · rw [b, c]; exact R.step j n' a
  · have hd : ¬ (j = j' ∧ n = n') := by omega
    rcases piece_del hi hk hn with ⟨a, b⟩ | ⟨x, a, b, c, d, e, f⟩ <;> rcases piece_del hi hk hn' with ⟨a', b'⟩ | ⟨x', a', b', c', d', e', f'⟩
    · omega
    · subst a
      obtain ⟨p1, p2⟩ := new_del hi h0 b
      rw [p1, p2, b', c', ← meet_comm]
      exact hf j' x' a' d'
    · subst a'
      obtain ⟨p1, p2⟩ := new_del hi h0 b'
      rw [p1, p2, b, c]
      exact hf j x a d
    · rw [b, c, b', c']
      refine R.meet2 a' a ?_
      rintro ⟨q1, q2⟩
      subst q1
      by_cases q : j' = i
      · have g1 := f q
        have g2 := f' q
        unfold old at g1 g2
        split at g1 <;> split at g2 <;> omega
      · have g1 := e q
        have g2 := e' q
        omega
  · -- places
    have tr : ∀ j t, inM (del m i k) j t → ∃ s, inM m j s ∧ pt (del m i k) j t = pt m j s ∧ ((j ≠ i ∧ s = t) ∨ (j = i ∧ s = old k t)) := fun j t ⟨a, b⟩ => by
      rw [del_length] at a
      by_cases c : j = i
      · subst c
        rw [len_del hi hki] at b
        refine ⟨old k t, ⟨a, ?_⟩, pt_del hi, .inr ⟨rfl, rfl⟩⟩
        unfold old; split <;> omega
      · rw [arc_del_ne c] at b
        exact ⟨t, ⟨a, b⟩, pt_del_ne c, .inl ⟨c, rfl⟩⟩
    obtain ⟨s, a, b, c⟩ := tr j t hj
    obtain ⟨s', a', b', c'⟩ := tr j' t' hj'
    rw [b, b'] at e
    have hin : 0 < s ∧ s + 1 < (arc m j).length := by
      rcases c with ⟨c, d⟩ | ⟨c, d⟩
      · rw [arc_del_ne c] at ht2
        omega
      · subst c
        rw [len_del hi hki] at ht2
        unfold old at d
        split at d <;> omega
    obtain ⟨x, y⟩ := R.once j s j' s' a hin.1 hin.2 a' e
    refine ⟨x, ?_⟩
    unfold old at c c'
    split at c <;> split at c' <;> omega
omit R in
theorem fits_of (hr : noMeet (del m i k)) : fits m i k := fun j n hn hne => by
  have hki : k < (arc m i).length := by omega
  have hp : isP (del m i k) i (k - 1) := ⟨by rw [del_length]; exact hi, by rw [len_del hi hki]; omega⟩
  obtain ⟨p1, p2⟩ := new_del hi h0 (n := k - 1) (by omega)
  obtain ⟨n', a, b, c, d⟩ : ∃ n', isP (del m i k) j n' ∧ pt (del m i k) j n' = pt m j n ∧ pt (del m i k) j (n' + 1) = pt m j (n + 1) ∧ ¬ (i = j ∧ k - 1 = n') := by
    obtain ⟨a, b⟩ := hn
    by_cases c : j = i
    · subst c
      by_cases g : n + 1 < k
      · refine ⟨n, ⟨by rw [del_length]; exact a, by rw [len_del hi hki]; omega⟩, ?_, ?_, by omega⟩
        · rw [pt_del hi]; unfold old; rw [if_pos (by omega)]
        · rw [pt_del hi]; unfold old; rw [if_pos (by omega)]
      · refine ⟨n - 1, ⟨by rw [del_length]; exact a, by rw [len_del hi hki]; omega⟩, ?_, ?_, by omega⟩
        · rw [pt_del hi]; unfold old; rw [if_neg (by omega)]; congr 1; omega
        · rw [pt_del hi]; unfold old; rw [if_neg (by omega)]; congr 1; omega
    · exact ⟨n, ⟨by rw [del_length]; exact a, by rw [arc_del_ne c]; exact b⟩, pt_del_ne c, pt_del_ne c, fun h => c h.1.symm⟩
  have := noMeet2 hr hp a d
  rw [p1, p2, b, c] at this
  exact this
end
/-- can a point be spared? as the code has it -/
def spP (m : Arcs) (i k : Nat) (most : Int) : Prop :=
  (¬ most < side (pt m i (k - 1)) (pt m i k) (pt m i (k + 1)) ∧ ¬ side (pt m i (k - 1)) (pt m i k) (pt m i (k + 1)) < -most) ∧
  ¬ (at_ (arc m i) 0 = at_ (arc m i) ((arc m i).length - 1) ∧ (arc m i).length < 5) ∧
  (∀ j t, inM m j t → ¬ (j = i ∧ k ≤ t + 1 ∧ t ≤ k + 1) → pt m j t ≠ pt m i (k - 1) → pt m j t ≠ pt m i (k + 1) → tri (pt m i (k - 1)) (pt m i k) (pt m i (k + 1)) (pt m j t) = false) ∧
  fits m i k
/-- as the document has it -/
def spR (m : Arcs) (i k : Nat) (most : Int) : Prop :=
  (¬ most < side (pt m i (k - 1)) (pt m i k) (pt m i (k + 1)) ∧ ¬ side (pt m i (k - 1)) (pt m i k) (pt m i (k + 1)) < -most) ∧
  ¬ (at_ (arc m i) 0 = at_ (arc m i) ((arc m i).length - 1) ∧ (arc m i).length = 4) ∧
  (∀ j t, inM m j t → pt m j t ≠ pt m i (k - 1) → pt m j t ≠ pt m i k → pt m j t ≠ pt m i (k + 1) → tri2 (pt m i (k - 1)) (pt m i k) (pt m i (k + 1)) (pt m j t) = false) ∧
  Right (del m i k)
theorem sp_iff {m : Arcs} {i k : Nat} (R : Right m) (hi : i < m.length) (h0 : 0 < k) (hk : k + 1 < (arc m i).length) (most : Int) : spP m i k most ↔ spR m i k most := by
  have h4 := R.four i hi
  constructor
  · rintro ⟨h1, h2, h3, h5⟩
    refine ⟨h1, fun h => h2 ⟨h.1, by omega⟩, fun j t hj a b c => ?_, right_del R hi h0 hk (fun e => ?_) h5⟩
    · rw [← tri_eq]
      refine h3 j t hj (fun h => ?_) a c
      obtain ⟨e, f, g⟩ := h
      subst e
      rcases (show t = k - 1 ∨ t = k ∨ t = k + 1 by omega) with e | e | e
      · rw [e] at a; exact a rfl
      · rw [e] at b; exact b rfl
      · rw [e] at c; exact c rfl
    · exact Classical.byContradiction fun c => h2 ⟨e, by omega⟩
  · rintro ⟨h1, h2, h3, h5⟩
    refine ⟨h1, fun h => h2 ⟨h.1, by have := h4 h.1; omega⟩, fun j t hj a b c => ?_, fits_of hi h0 hk h5.meets⟩
    rw [tri_eq]
    refine h3 j t hj b (fun e => ?_) c
    obtain ⟨x, y⟩ := R.once i k j t ⟨hi, by omega⟩ h0 hk hj e.symm
    exact a ⟨x.symm, by omega, by omega⟩
end Shp
/-
  Plain facts on the order around a place: three directions, one of them turned over nothing (no program in sight).
-/
namespace Shp
def rk (L : List Sp) (x : Sp) : Nat := L.countP fun y => decide (trn y x < 0)
theorem count_le {α : Type} {p q : α → Bool} : ∀ {L : List α}, (∀ z ∈ L, p z = true → q z = true) → L.countP p ≤ L.countP q
  | [], _ => Nat.le_refl _
  | x :: L, h => by
    have ih := count_le (L := L) fun z hz => h z (List.mem_cons_of_mem _ hz)
    have hx := h x (List.mem_cons_self ..)
    rw [List.countP_cons, List.countP_cons]
    cases hp : p x
    · simp; omega
    · rw [hx hp]; simp; omega
theorem count_lt {α : Type} {p q : α → Bool} : ∀ {L : List α} {x : α}, (∀ z ∈ L, p z = true → q z = true) → x ∈ L → p x = false → q x = true → L.countP p < L.countP q
  | [], _, _, hx, _, _ => by cases hx
  | y :: L, x, h, hx, h1, h2 => by
    have hy := h y (List.mem_cons_self ..)
    rw [List.countP_cons, List.countP_cons]
    by_cases e : x = y
    · subst e
      have := count_le (L := L) fun z hz => h z (List.mem_cons_of_mem _ hz)
      rw [h1, h2]; simp; omega
    · have hx' : x ∈ L := (List.mem_cons.1 hx).resolve_left e
      have := count_lt (L := L) (fun z hz => h z (List.mem_cons_of_mem _ hz)) hx' h1 h2
      cases hp : p y
      · simp; omega
      · rw [hy hp]; simp; omega
theorem rk_lt {L : List Sp} (hL : ∀ y ∈ L, y ≠ (0, 0)) {x y : Sp} (hx : x ∈ L) (hy : y ∈ L) : trn x y < 0 ↔ rk L x < rk L y := by
  have sx := fun z => trn_swap z x
  have sy := fun z => trn_swap z y
  constructor
  · intro h
    refine count_lt (x := x) (fun z hz h2 => ?_) hx ?_ (by simpa using h)
    · simp only [decide_eq_true_eq] at h2 ⊢
      have := trn_le_trans (hL z hz) (hL x hx) (hL y hy) (by omega) (by omega)
      rcases Int.lt_or_eq_of_le this with c | c
      · exact c
      · have := trn_le_trans (hL y hy) (hL z hz) (hL x hx) (by have := sy z; omega) (by omega)
        have := sy x
        omega
    · simp only [decide_eq_false_iff_not]
      have := sx x
      omega
  · intro h
    refine Classical.byContradiction fun c => ?_
    have hyx : trn y x ≤ 0 := by have := sy x; omega
    have : rk L y ≤ rk L x := count_le fun z hz h2 => by
      simp only [decide_eq_true_eq] at h2 ⊢
      have := trn_le_trans (hL z hz) (hL y hy) (hL x hx) (by omega) hyx
      rcases Int.lt_or_eq_of_le this with c | c
      · exact c
      · have := trn_le_trans (hL y hy) (hL x hx) (hL z hz) hyx (by have := sx z; omega)
        have := sy z
        omega
    omega
theorem rk_ne {L : List Sp} (hL : ∀ y ∈ L, y ≠ (0, 0)) {x y : Sp} (hx : x ∈ L) (hy : y ∈ L) (h : trn x y ≠ 0) : rk L x ≠ rk L y := fun e => by
  have a := rk_lt hL hx hy
  have b := rk_lt hL hy hx
  have := trn_swap x y
  omega
theorem rk_eq {L : List Sp} (hL : ∀ y ∈ L, y ≠ (0, 0)) {x y : Sp} (hx : x ∈ L) (hy : y ∈ L) (h : trn x y = 0) : rk L x = rk L y := by
  have a := rk_lt hL hx hy
  have b := rk_lt hL hy hx
  have := trn_swap x y
  omega
def cyR (a b c : Nat) : Prop := (a < b ∧ b < c) ∨ (b < c ∧ c < a) ∨ (c < a ∧ a < b)
theorem CY_rk {L : List Sp} (hL : ∀ y ∈ L, y ≠ (0, 0)) {a b c : Sp} (ha : a ∈ L) (hb : b ∈ L) (hc : c ∈ L) : CY a b c ↔ cyR (rk L a) (rk L b) (rk L c) := by
  unfold CY cyR
  rw [rk_lt hL ha hb, rk_lt hL hb hc, rk_lt hL hc ha]
/-- two directions that differ, and are some -/
structure Df (a b : Sp) : Prop where
  l : a ≠ (0, 0)
  r : b ≠ (0, 0)
  ne : trn a b ≠ 0
theorem Df.symm {a b : Sp} (h : Df a b) : Df b a := ⟨h.r, h.l, by have := trn_swap a b; have := h.ne; omega⟩
theorem mem3 {a b c : Sp} (P : Sp → Prop) (ha : P a) (hb : P b) (hc : P c) : ∀ y ∈ [a, b, c], P y := by
  intro y hy
  simp only [List.mem_cons, List.not_mem_nil, or_false] at hy
  rcases hy with rfl | rfl | rfl <;> assumption
theorem mem4 {a b c d : Sp} (P : Sp → Prop) (ha : P a) (hb : P b) (hc : P c) (hd : P d) : ∀ y ∈ [a, b, c, d], P y := by
  intro y hy
  simp only [List.mem_cons, List.not_mem_nil, or_false] at hy
  rcases hy with rfl | rfl | rfl | rfl <;> assumption
theorem soon_iff {f a b : Sp} (h1 : Df f a) (h2 : Df f b) (h3 : Df a b) : soon f a b = true ↔ CY b a f := by
  constructor
  · intro h
    refine Classical.byContradiction fun c => ?_
    have hL := mem3 (fun y => y ≠ (0, 0)) h1.l h1.r h2.r
    have m1 : f ∈ [f, a, b] := by simp
    have m2 : a ∈ [f, a, b] := by simp
    have m3 : b ∈ [f, a, b] := by simp
    have n1 := rk_ne hL m1 m2 h1.ne
    have n2 := rk_ne hL m1 m3 h2.ne
    have n3 := rk_ne hL m2 m3 h3.ne
    rw [CY_rk hL m3 m2 m1] at c
    have c2 : CY a b f := by
      rw [CY_rk hL m2 m3 m1]
      unfold cyR at *
      omega
    rw [(soon_cyc h1.l h2.r h1.r c2).2] at h
    cases h
  · exact fun c => (soon_cyc h1.l h1.r h2.r c).1
theorem CY_cone {d d' x : Sp} (hd : d ≠ (0, 0)) (hd' : d' ≠ (0, 0)) (hx : x ≠ (0, 0)) (he : 0 < cross d d') (h : CY d x d') : 0 < cross d x ∧ 0 < cross x d' := by
  unfold CY at h
  rw [trn_lt, trn_lt, trn_lt] at h
  obtain ⟨u, hu, hu'⟩ := up_or hd
  obtain ⟨v, hv, hv'⟩ := up_or hd'
  obtain ⟨z, hz, hz'⟩ := up_or hx
  have s1 := cross_swap u v
  have s2 := cross_swap v z
  have s3 := cross_swap u z
  have t1 := up_trans hu hv hz
  have t2 := up_trans hu hz hv
  have t3 := up_trans hv hu hz
  have t4 := up_trans hv hz hu
  have t5 := up_trans hz hu hv
  have t6 := up_trans hz hv hu
  rcases hu' with ⟨e1, f1⟩ | ⟨e1, f1⟩ <;> rcases hv' with ⟨e2, f2⟩ | ⟨e2, f2⟩ <;> rcases hz' with ⟨e3, f3⟩ | ⟨e3, f3⟩ <;>
    (rw [f1, f2, f3] at h; subst e1; subst e2; subst e3; simp only [cross_ng_l, cross_ng_r, Int.neg_neg] at *; omega)
/-- is the direction x met when d is turned to d'? -/
def within (d d' x : Sp) : Prop := (0 < cross d d' ∧ 0 < cross d x ∧ 0 < cross x d') ∨ (cross d d' < 0 ∧ cross d x < 0 ∧ cross x d' < 0)
theorem same_dir {d d' : Sp} (hd : d ≠ (0, 0)) (hd' : d' ≠ (0, 0)) (hc : cross d d' = 0) (ho : 0 < dot d d') : trn d d' = 0 := by
  obtain ⟨u, hu, hu'⟩ := up_or hd
  obtain ⟨v, hv, hv'⟩ := up_or hd'
  have s := cross_swap d d'
  have hh : hf d = hf d' := by
    rcases hu' with ⟨e1, f1⟩ | ⟨e1, f1⟩ <;> rcases hv' with ⟨e2, f2⟩ | ⟨e2, f2⟩
    · omega
    · subst e1; subst e2
      simp only [cross_ng_r, dot_ng_r] at hc ho
      have := up_dot hu hv (by omega)
      omega
    · subst e1; subst e2
      simp only [cross_ng_l, dot_ng_l] at hc ho
      have := up_dot hu hv (by omega)
      omega
    · omega
  unfold trn
  rw [if_pos (by omega), s, hc]; rfl
theorem CY_turn {d d' a b : Sp} (h1 : Df d a) (h2 : Df d b) (h3 : Df d' a) (h4 : Df d' b) (h5 : Df a b) (h0 : cross d d' = 0 → 0 < dot d d') (ha : ¬ within d d' a) (hb : ¬ within d d' b) : CY d a b ↔ CY d' a b := by
  have hL := mem4 (fun y => y ≠ (0, 0)) h1.l h3.l h1.r h2.r
  have m1 : d ∈ [d, d', a, b] := by simp
  have m2 : d' ∈ [d, d', a, b] := by simp
  have m3 : a ∈ [d, d', a, b] := by simp
  have m4 : b ∈ [d, d', a, b] := by simp
  have n1 := rk_ne hL m1 m3 h1.ne
  have n2 := rk_ne hL m1 m4 h2.ne
  have n3 := rk_ne hL m2 m3 h3.ne
  have n4 := rk_ne hL m2 m4 h4.ne
  have n5 := rk_ne hL m3 m4 h5.ne
  rw [CY_rk hL m1 m3 m4, CY_rk hL m2 m3 m4]
  rcases Int.lt_trichotomy (cross d d') 0 with c | c | c
  · -- with the clock
    have c' : 0 < cross d' d := by rw [cross_swap d d']; omega
    have k1 : ¬ CY d' a d := fun h => by
      have := CY_cone h3.l h1.l h1.r c' h
      refine ha (.inr ⟨c, ?_, ?_⟩)
      · rw [cross_swap a d]; omega
      · rw [cross_swap d' a]; omega
    have k2 : ¬ CY d' b d := fun h => by
      have := CY_cone h3.l h1.l h2.r c' h
      refine hb (.inr ⟨c, ?_, ?_⟩)
      · rw [cross_swap b d]; omega
      · rw [cross_swap d' b]; omega
    rw [CY_rk hL m2 m3 m1] at k1
    rw [CY_rk hL m2 m4 m1] at k2
    unfold cyR at *
    omega
  · have := rk_eq hL m1 m2 (same_dir h1.l h3.l c (h0 c))
    rw [this]
  · have k1 : ¬ CY d a d' := fun h => by
      have := CY_cone h1.l h3.l h1.r c h
      exact ha (.inl ⟨c, this⟩)
    have k2 : ¬ CY d b d' := fun h => by
      have := CY_cone h1.l h3.l h2.r c h
      exact hb (.inl ⟨c, this⟩)
    rw [CY_rk hL m1 m3 m2] at k1
    rw [CY_rk hL m1 m4 m2] at k2
    unfold cyR at *
    omega
end Shp
/-
  Plain facts on a map that loses a point that can be spared: the next ways stay, and so do the rounds (no program in sight).
-/
namespace Shp
theorem tri_swap (p q r x : Sp) : tri r q p x = tri p q r x := by
  have a : side r q p = - side p q r := by rw [side_swap q r p, side_rot]
  unfold tri
  rw [a, side_swap q r x, side_swap p q x, side_swap r p x, sg_neg, sg_neg, sg_neg, on_swap q r, on_swap p q, on_swap r p]
  by_cases h : side p q r = 0
  · rw [if_pos h, if_pos (by omega), Bool.or_comm (on q r x)]
  · rw [if_neg h, if_neg (by omega)]
    rw [Bool.eq_iff_iff]
    simp only [Bool.or_eq_true, Bool.not_eq_true', Bool.or_eq_false_iff, decide_eq_false_iff_not]
    omega
/-- a point that is left out, seen from one of its neighbours -/
structure Nb (m : Arcs) (i k : Nat) (p r : Sp) : Prop where
  e : (p = pt m i (k - 1) ∧ r = pt m i (k + 1)) ∨ (p = pt m i (k + 1) ∧ r = pt m i (k - 1))
section
variable {m : Arcs} {i k : Nat} (R : Right m) (hi : i < m.length) (h0 : 0 < k) (hk : k + 1 < (arc m i).length) {most : Int} (hs : spP m i k most)
include R hi h0 hk
theorem Nb.meets {p r : Sp} (h : Nb m i k p r) : meet p (pt m i k) (pt m i k) r = false := by
  have h1 : isP m i (k - 1) := ⟨hi, by omega⟩
  have h2 : isP m i k := ⟨hi, hk⟩
  have g := R.meet2 h1 h2 (by omega)
  rw [show k - 1 + 1 = k by omega] at g
  rcases h.e with ⟨a, b⟩ | ⟨a, b⟩
  · rw [a, b]; exact g
  · rw [a, b, meet_swap, ← meet_comm, meet_swap]
    exact g
theorem Nb.ne {p r : Sp} (h : Nb m i k p r) : p ≠ pt m i k ∧ r ≠ pt m i k ∧ p ≠ r := by
  have h1 : isP m i (k - 1) := ⟨hi, by omega⟩
  have h2 : isP m i k := ⟨hi, hk⟩
  have a := R.step _ _ h1
  have b := R.step _ _ h2
  rw [show k - 1 + 1 = k by omega] at a
  have c := ends_ne R hi h0 hk
  rcases h.e with ⟨e1, e2⟩ | ⟨e1, e2⟩
  · rw [e1, e2]; exact ⟨a, b.symm, c⟩
  · rw [e1, e2]; exact ⟨b.symm, a, c.symm⟩
/-- the new direction: where it is the old line, it is the old one -/
theorem Nb.dots {p r : Sp} (h : Nb m i k p r) (hc : cross (sub (pt m i k) p) (sub r p) = 0) : 0 < dot (sub (pt m i k) p) (sub r p) := by
  obtain ⟨n1, n2, n3⟩ := h.ne R hi h0 hk
  have hm := h.meets R hi h0 hk
  generalize pt m i k = q at *
  have z : ∀ x : Sp, p ≠ x → sub x p ≠ (0, 0) := fun x hx e => hx (by
    unfold sub at e
    simp only [Prod.mk.injEq] at e
    exact Prod.ext (by omega) (by omega))
  obtain ⟨u, hu, hu'⟩ := up_or (z q n1)
  obtain ⟨v, hv, hv'⟩ := up_or (z r n3)
  have key : ∀ {d d' : Sp}, sub q p = d → sub r p = d' → UP u → UP v → cross u v = 0 → (d = u ∧ d' = ng v) ∨ (d = ng u ∧ d' = v) → False := fun {d d'} e1 e2 hu hv hc2 he => by
    have hb := up_btw hu hv hc2
    have hon : on q r p = true := by
      refine on_btw ?_ ?_
      · rw [← side_sub]
        have : side q r p = side p q r := side_rot p q r
        rw [this, side_sub]
        exact hc
      · have f1 : (sub p q).1 = - d.1 := by rw [← e1]; unfold sub; simp only; omega
        have f2 : (sub p q).2 = - d.2 := by rw [← e1]; unfold sub; simp only; omega
        have f3 : (sub r q).1 = d'.1 - d.1 := by rw [← e1, ← e2]; unfold sub; simp only; omega
        have f4 : (sub r q).2 = d'.2 - d.2 := by rw [← e1, ← e2]; unfold sub; simp only; omega
        unfold btw at *
        rw [f1, f2, f3, f4]
        rcases he with ⟨g1, g2⟩ | ⟨g1, g2⟩ <;> subst g1 <;> subst g2 <;> unfold ng <;> simp only <;> omega
    have ht : meet p q q r = true := (meet_iff _ _ _ _).2 (.inr (.inr (.inl ((tch_iff _ _ _).2 ⟨hon, n1, n3⟩))))
    rw [ht] at hm
    cases hm
  rcases hu' with ⟨e1, f1⟩ | ⟨e1, f1⟩ <;> rcases hv' with ⟨e2, f2⟩ | ⟨e2, f2⟩
  · rw [e1, e2] at hc ⊢; exact up_dot hu hv hc
  · have hc2 : cross u v = 0 := by rw [e1, e2, cross_ng_r] at hc; omega
    exact (key e1 e2 hu hv hc2 (.inl ⟨rfl, rfl⟩)).elim
  · have hc2 : cross u v = 0 := by rw [e1, e2, cross_ng_l] at hc; omega
    exact (key e1 e2 hu hv hc2 (.inr ⟨rfl, rfl⟩)).elim
  · rw [e1, e2] at hc ⊢
    have := up_dot hu hv (by rw [cross_ng_l, cross_ng_r] at hc; omega)
    rw [dot_ng_l, dot_ng_r]; omega
include hs
/-- no other way lies between -/
theorem Nb.clear {p r : Sp} (h : Nb m i k p r) {x : Int} (hx : isWay m x) (hp : frm m x = p) (hne : ¬ (wi x = i ∧ (wk m x = k ∨ wk m x + 1 = k))) : ¬ within (sub (pt m i k) p) (sub r p) (dr m x) := by
  intro hw
  obtain ⟨n1, n2, n3⟩ := h.ne R hi h0 hk
  obtain ⟨p1, d1⟩ := way_piece R hx
  have hS := nx_ne R hx
  have htri := hs.2.2.1
  -- the piece of the way, and the one from q to r
  have hq : meet p (nxp m x) (pt m i k) r = false := by
    have g1 : isP m i (k - 1) := ⟨hi, by omega⟩
    have g2 : isP m i k := ⟨hi, hk⟩
    have m1 := R.meet2 p1 g1 (fun h => hne ⟨h.1, by omega⟩)
    have m2 := R.meet2 p1 g2 (fun h => hne ⟨h.1, by omega⟩)
    rw [show k - 1 + 1 = k by omega] at m1
    rw [← meet_comm, meet_swap, meet_comm] at m1
    have way : ∀ a b, meet (pt m (wi x) (wk m x)) (pt m (wi x) (wk m x + 1)) a b = false → meet (frm m x) (nxp m x) a b = false := fun a b hh => by
      rcases d1 with ⟨c, d⟩ | ⟨c, d⟩
      · rw [c, d]; exact hh
      · rw [c, d, meet_swap]; exact hh
    rw [← hp]
    rcases h.e with ⟨a, b⟩ | ⟨a, b⟩
    · rw [b]; exact way _ _ m2
    · rw [b]; exact way _ _ m1
  -- the place where the way goes
  obtain ⟨t, ht, hte⟩ : ∃ t, inM m (wi x) t ∧ nxp m x = pt m (wi x) t := by
    rcases d1 with ⟨c, d⟩ | ⟨c, d⟩
    · exact ⟨_, ⟨p1.1, p1.2⟩, d⟩
    · exact ⟨_, ⟨p1.1, by have := p1.2; omega⟩, d⟩
  have htr : nxp m x ≠ p → nxp m x ≠ pt m i k → nxp m x ≠ r → tri p (pt m i k) r (nxp m x) = false := fun c1 c2 c3 => by
    rw [hte] at c1 c2 c3 ⊢
    have hmine : ¬ (wi x = i ∧ k ≤ t + 1 ∧ t ≤ k + 1) := by
      rintro ⟨y1, y2, y3⟩
      rw [y1] at c1 c2 c3
      rcases (show t = k - 1 ∨ t = k ∨ t = k + 1 by omega) with e | e | e <;> rw [e] at c1 c2 c3
      · rcases h.e with ⟨a, b⟩ | ⟨a, b⟩
        · exact c1 a.symm
        · exact c3 b.symm
      · exact c2 rfl
      · rcases h.e with ⟨a, b⟩ | ⟨a, b⟩
        · exact c3 b.symm
        · exact c1 a.symm
    rcases h.e with ⟨a, b⟩ | ⟨a, b⟩
    · rw [a] at c1
      rw [b] at c3
      rw [a, b]
      exact htri _ t ht hmine c1 c3
    · rw [a] at c1
      rw [b] at c3
      rw [a, b, tri_swap]
      exact htri _ t ht hmine c3 c1
  have hdx : dr m x = sub (nxp m x) p := by unfold dr; rw [hp]
  rw [hdx] at hw
  have hSp : nxp m x ≠ p := by rw [← hp]; exact hS
  generalize nxp m x = S at *
  generalize pt m i k = q at *
  have s1 : cross (sub q p) (sub r p) = side p q r := (side_sub p q r).symm
  have s2 : cross (sub q p) (sub S p) = side p q S := (side_sub p q S).symm
  have s3 : cross (sub S p) (sub r p) = side p S r := (side_sub p S r).symm
  have s4 : side r p S = side p S r := (side_rot r p S).symm
  have s5 : side p S q = - side p q S := by rw [← side_rot p S q, side_swap q S p, side_rot p q S]
  unfold within at hw
  rw [s1, s2, s3] at hw
  have hSq : S ≠ q := fun e => by rw [e, side_r] at hw; omega
  have hSr : S ≠ r := fun e => by rw [e, side_r] at hw; omega
  have ht := htr hSp hSq hSr
  have hcr : ¬ crs p S q r = true := fun e => by
    rw [(meet_iff p S q r).2 (by simp [e])] at hq
    cases hq
  unfold crs at hcr
  simp only [Bool.and_eq_true, decide_eq_true_eq] at hcr
  unfold tri at ht
  have hD : side q r p = side p q r := side_rot p q r
  have g : ∀ z, sgZ z = if 0 < z then 1 else if z < 0 then -1 else 0 := fun _ => rfl
  rcases hw with ⟨w1, w2, w3⟩ | ⟨w1, w2, w3⟩
  · rw [if_neg (by omega)] at ht
    rw [Bool.or_eq_false_iff] at ht
    have t1 := ht.1
    simp only [Bool.not_eq_false', Bool.or_eq_true, decide_eq_true_eq, sg_lt] at t1
    have hq2 : side q r S < 0 := by omega
    apply hcr
    rw [s5, hD]
    have v1 : sgZ (- side p q S) = -1 := by rw [g, if_neg (by omega), if_pos (by omega)]
    have v2 : sgZ (side p S r) = 1 := by rw [g, if_pos (by omega)]
    have v3 : sgZ (side p q r) = 1 := by rw [g, if_pos (by omega)]
    have v4 : sgZ (side q r S) = -1 := by rw [g, if_neg (by omega), if_pos (by omega)]
    rw [v1, v2, v3, v4]
    decide
  · rw [if_neg (by omega)] at ht
    rw [Bool.or_eq_false_iff] at ht
    have t1 := ht.2
    simp only [Bool.not_eq_false', Bool.or_eq_true, decide_eq_true_eq, sg_gt] at t1
    have hq2 : 0 < side q r S := by omega
    apply hcr
    rw [s5, hD]
    have v1 : sgZ (- side p q S) = 1 := by rw [g, if_pos (by omega)]
    have v2 : sgZ (side p S r) = -1 := by rw [g, if_neg (by omega), if_pos (by omega)]
    have v3 : sgZ (side p q r) = -1 := by rw [g, if_neg (by omega), if_pos (by omega)]
    have v4 : sgZ (side q r S) = 1 := by rw [g, if_pos (by omega)]
    rw [v1, v2, v3, v4]
    decide
end
end Shp
/-
  Plain facts on a map that loses a point that can be spared, on: the next ways and the rounds are the same (no program in sight).
-/
namespace Shp
theorem CY_rot (a b c : Sp) : CY a b c ↔ CY b c a := by unfold CY; omega
theorem soon_self (f a : Sp) : soon f a a = false := by
  unfold soon
  rw [if_pos rfl, cross_self]; rfl
section
variable {m : Arcs} {i k : Nat} (R : Right m) (hi : i < m.length) (h0 : 0 < k) (hk : k + 1 < (arc m i).length) {most : Int} (hs : spP m i k most)
include hi h0 hk
theorem frm_del (v : Int) : frm (del m i k) v = frm m v := by
  unfold frm
  rw [arcOf_eq, arcOf_eq]
  by_cases c : wi v = i
  · rw [c, arc_del hi]
    have e : ((arc m i).eraseIdx k).length = (arc m i).length - 1 := by rw [List.length_eraseIdx, if_pos (by omega)]
    rw [e, at_erase, at_erase]
    have o1 : old k 0 = 0 := by unfold old; rw [if_pos h0]
    have o2 : old k ((arc m i).length - 1 - 1) = (arc m i).length - 1 := by unfold old; rw [if_neg (by omega)]; omega
    rw [o1, o2]
  · rw [arc_del_ne c]
/-- a way whose next point is left out -/
def moved' (m : Arcs) (i k : Nat) (v : Int) : Prop := wi v = i ∧ ((0 < v ∧ k = 1) ∨ (¬ 0 < v ∧ k + 2 = (arc m i).length))
theorem nxp_del {v : Int} (hn : ¬ moved' m i k v) : nxp (del m i k) v = nxp m v := by
  unfold nxp
  rw [arcOf_eq, arcOf_eq]
  by_cases c : wi v = i
  · rw [c, arc_del hi]
    have e : ((arc m i).eraseIdx k).length = (arc m i).length - 1 := by rw [List.length_eraseIdx, if_pos (by omega)]
    rw [e, at_erase, at_erase]
    by_cases g : 0 < v
    · rw [if_pos g, if_pos g]
      have : k ≠ 1 := fun e => hn ⟨c, .inl ⟨g, e⟩⟩
      unfold old
      rw [if_pos (by omega)]
    · rw [if_neg g, if_neg g]
      have : k + 2 ≠ (arc m i).length := fun e => hn ⟨c, .inr ⟨g, e⟩⟩
      unfold old
      rw [if_neg (by omega), show (arc m i).length - 1 - 2 + 1 = (arc m i).length - 2 by omega]
  · rw [arc_del_ne c]
theorem dr_del {v : Int} (hn : ¬ moved' m i k v) : dr (del m i k) v = dr m v := by
  unfold dr
  rw [nxp_del hi h0 hk hn, frm_del hi h0 hk]
theorem moved_nb {v : Int} (h : moved' m i k v) : nxp m v = pt m i k ∧ Nb m i k (frm m v) (nxp (del m i k) v) := by
  obtain ⟨c, h⟩ := h
  unfold nxp frm
  rw [arcOf_eq, arcOf_eq, c, arc_del hi]
  have e : ((arc m i).eraseIdx k).length = (arc m i).length - 1 := by rw [List.length_eraseIdx, if_pos (by omega)]
  rw [e, at_erase, at_erase]
  rcases h with ⟨g, g1⟩ | ⟨g, g1⟩
  · rw [if_pos g, if_pos g, if_pos g]
    refine ⟨by rw [g1]; rfl, ⟨.inl ⟨?_, ?_⟩⟩⟩
    · rw [g1]; rfl
    · unfold old; rw [if_neg (by omega), g1]; rfl
  · rw [if_neg g, if_neg g, if_neg g]
    refine ⟨?_, ⟨.inr ⟨?_, ?_⟩⟩⟩
    · unfold pt; congr 1; omega
    · unfold pt; congr 1; omega
    · unfold pt old; rw [if_pos (by omega)]; congr 1; omega
omit hi h0 hk in
theorem moved_piece {x : Int} (h : moved' m i k x) (h0 : 0 < k) : wi x = i ∧ (wk m x = k ∨ wk m x + 1 = k) := by
  obtain ⟨c, h⟩ := h
  refine ⟨c, ?_⟩
  unfold wk
  rw [arcOf_eq, c]
  rcases h with ⟨g, g1⟩ | ⟨g, g1⟩
  · rw [if_pos g]; omega
  · rw [if_neg g]; omega
include hs
omit hi h0 hk in
theorem moved_other {v x : Int} (hv : isWay m v) (hx : isWay m x) (h : moved' m i k v) (hf : frm m x = frm m v) (hne : x ≠ v) : ¬ (wi x = i ∧ (wk m x = k ∨ wk m x + 1 = k)) := by
  rintro ⟨c, d⟩
  obtain ⟨e, h⟩ := h
  have hxv : x = -v := by
    have := hv.1
    have := hx.1
    unfold wi at c e
    have := hv.2
    omega
  have hcl : at_ (arc m i) 0 = at_ (arc m i) ((arc m i).length - 1) := by
    unfold frm at hf
    rw [arcOf_eq, arcOf_eq, c, e] at hf
    by_cases g : 0 < v
    · rw [if_neg (by omega), if_pos g] at hf; exact hf.symm
    · rw [if_pos (by have := hv.1; omega), if_neg g] at hf; exact hf
  have h5 : 5 ≤ (arc m i).length := Classical.byContradiction fun q => hs.2.1 ⟨hcl, by omega⟩
  unfold wk at d
  rw [arcOf_eq, c] at d
  have := hv.1
  rcases h with ⟨g, g1⟩ | ⟨g, g1⟩
  · rw [if_neg (by omega)] at d; omega
  · rw [if_pos (by omega)] at d; omega
include R
theorem right_sp : Right (del m i k) := right_del R hi h0 hk (fun e => Classical.byContradiction fun q => hs.2.1 ⟨e, by omega⟩) hs.2.2.2
omit h0 hk hs hi in
theorem df_way {x y : Int} (hx : isWay m x) (hy : isWay m y) (hf : frm m x = frm m y) (hne : x ≠ y) : Df (dr m x) (dr m y) := ⟨dr_ne R hx, dr_ne R hy, dr_diff R hx hy hf hne⟩
theorem turn_one {v a b : Int} (hv : isWay m v) (ha : isWay m a) (hb : isWay m b) (fa : frm m a = frm m v) (fb : frm m b = frm m v) (na : a ≠ v) (nb : b ≠ v) (nab : a ≠ b) (h : moved' m i k v) :
    CY (dr m v) (dr m a) (dr m b) ↔ CY (dr (del m i k) v) (dr (del m i k) a) (dr (del m i k) b) := by
  have R' := right_sp R hi h0 hk hs
  have oa := moved_other hs hv ha h fa na
  have ob := moved_other hs hv hb h fb nb
  obtain ⟨hq, hN⟩ := moved_nb hi h0 hk h
  have w' : ∀ {x}, isWay m x → isWay (del m i k) x := fun {x} hx => ⟨hx.1, by rw [del_length]; exact hx.2⟩
  have f' : ∀ x, frm (del m i k) x = frm m x := frm_del hi h0 hk
  have ea := dr_del hi h0 hk (v := a) (fun q => oa (moved_piece q h0))
  have eb := dr_del hi h0 hk (v := b) (fun q => ob (moved_piece q h0))
  have d1 : dr m v = sub (pt m i k) (frm m v) := by unfold dr; rw [hq]
  have d2 : dr (del m i k) v = sub (nxp (del m i k) v) (frm m v) := by unfold dr; rw [f']
  have g3 := df_way R' (w' hv) (w' ha) (by rw [f', f', fa]) (Ne.symm na)
  have g4 := df_way R' (w' hv) (w' hb) (by rw [f', f', fb]) (Ne.symm nb)
  rw [ea] at g3
  rw [eb] at g4
  rw [ea, eb]
  refine CY_turn (df_way R hv ha fa.symm (Ne.symm na)) (df_way R hv hb fb.symm (Ne.symm nb)) g3 g4 (df_way R ha hb (fa.trans fb.symm) nab) ?_ ?_ ?_
  · rw [d1, d2]; exact hN.dots R hi h0 hk
  · rw [d1, d2]; exact hN.clear R hi h0 hk hs ha fa oa
  · rw [d1, d2]; exact hN.clear R hi h0 hk hs hb fb ob
theorem turn_any {x y z : Int} (hx : isWay m x) (hy : isWay m y) (hz : isWay m z) (fy : frm m y = frm m x) (fz : frm m z = frm m x) (nxy : x ≠ y) (nxz : x ≠ z) (nyz : y ≠ z) :
    CY (dr m x) (dr m y) (dr m z) ↔ CY (dr (del m i k) x) (dr (del m i k) y) (dr (del m i k) z) := by
  by_cases cx : moved' m i k x
  · exact turn_one R hi h0 hk hs hx hy hz fy fz (Ne.symm nxy) (Ne.symm nxz) nyz cx
  · by_cases cy : moved' m i k y
    · rw [CY_rot, CY_rot (dr (del m i k) x)]
      exact turn_one R hi h0 hk hs hy hz hx (fz.trans fy.symm) fy.symm (Ne.symm nyz) nxy (Ne.symm nxz) cy
    · by_cases cz : moved' m i k z
      · rw [← CY_rot (dr m z), ← CY_rot (dr (del m i k) z)]
        exact turn_one R hi h0 hk hs hz hx hy fz.symm (fy.trans fz.symm) nxz nyz nxy cz
      · rw [dr_del hi h0 hk cx, dr_del hi h0 hk cy, dr_del hi h0 hk cz]
theorem soon_del {f a b : Int} (hf : isWay m f) (ha : isWay m a) (hb : isWay m b) (fa : frm m a = frm m f) (fb : frm m b = frm m f) (na : a ≠ f) (nb : b ≠ f) :
    soon (dr m f) (dr m a) (dr m b) = soon (dr (del m i k) f) (dr (del m i k) a) (dr (del m i k) b) := by
  by_cases e : a = b
  · subst e; rw [soon_self, soon_self]
  · have R' := right_sp R hi h0 hk hs
    have w' : ∀ {x}, isWay m x → isWay (del m i k) x := fun {x} hx => ⟨hx.1, by rw [del_length]; exact hx.2⟩
    have f' : ∀ x, frm (del m i k) x = frm m x := frm_del hi h0 hk
    rw [Bool.eq_iff_iff, soon_iff (df_way R hf ha fa.symm (Ne.symm na)) (df_way R hf hb fb.symm (Ne.symm nb)) (df_way R ha hb (fa.trans fb.symm) e),
      soon_iff (df_way R' (w' hf) (w' ha) (by rw [f', f', fa]) (Ne.symm na)) (df_way R' (w' hf) (w' hb) (by rw [f', f', fb]) (Ne.symm nb)) (df_way R' (w' ha) (w' hb) (by rw [f', f', fa, fb]) e)]
    exact turn_any R hi h0 hk hs hb ha hf (fa.trans fb.symm) fb.symm (Ne.symm e) nb na
theorem nof_del {w : Int} (hw : isWay m w) : nof (del m i k) w = nof m w := by
  have f' : ∀ x, frm (del m i k) x = frm m x := frm_del hi h0 hk
  have hmw : isWay m (-w) := ⟨by have := hw.1; omega, by have := hw.2; omega⟩
  have key : ∀ (xs : List Int), (∀ v ∈ xs, isWay m v) → ∀ st st' : Int × Sp, (st'.1 = st.1 ∧ (st.1 ≠ 0 → isWay m st.1 ∧ frm m st.1 = frm m (-w) ∧ st.1 ≠ -w ∧ st.2 = dr m st.1 ∧ st'.2 = dr (del m i k) st.1)) →
      (xs.foldl (nst (del m i k) w) st').1 = (xs.foldl (nst m w) st).1 := by
    intro xs
    induction xs with
    | nil => exact fun _ st st' h => h.1
    | cons v xs ih =>
      intro hx st st' h
      obtain ⟨h1, h2⟩ := h
      have hv := hx v (List.mem_cons_self ..)
      rw [List.foldl_cons, List.foldl_cons]
      refine ih (fun u hu => hx u (List.mem_cons_of_mem _ hu)) _ _ ?_
      unfold nst
      rw [f', f']
      by_cases c1 : v = -w ∨ frm m v ≠ frm m (-w)
      · rw [if_pos c1, if_pos c1]; exact ⟨h1, h2⟩
      · rw [if_neg c1, if_neg c1]
        have c2 : v ≠ -w := fun e => c1 (.inl e)
        have c3 : frm m v = frm m (-w) := Classical.byContradiction fun e => c1 (.inr e)
        have new : ((v, dr (del m i k) v) : Int × Sp).1 = ((v, dr m v) : Int × Sp).1 ∧ (((v, dr m v) : Int × Sp).1 ≠ 0 → isWay m v ∧ frm m v = frm m (-w) ∧ v ≠ -w ∧ dr m v = dr m v ∧ dr (del m i k) v = dr (del m i k) v) := ⟨rfl, fun _ => ⟨hv, c3, c2, rfl, rfl⟩⟩
        by_cases z : st.1 = 0
        · rw [if_pos (.inl (h1.trans z)), if_pos (.inl z)]
          exact new
        · obtain ⟨a1, a2, a3, a4, a5⟩ := h2 z
          have hsn := soon_del R hi h0 hk hs hmw hv a1 c3 a2 c2 a3
          rw [← a4, ← a5] at hsn
          rw [h1, ← hsn]
          split
          · exact new
          · exact ⟨h1, h2⟩
  have := key (wl m.length) (fun v hv => (mem_wl _ _).1 hv) (0, (0, 0)) (0, (0, 0)) ⟨rfl, fun h => absurd rfl h⟩
  unfold nof
  rw [del_length, this]
theorem rounds_del : rounds (nof (del m i k)) (del m i k).length = rounds (nof m) m.length := by
  rw [del_length]
  have hw := nof_way (m := del m i k)
  rw [del_length] at hw
  exact rounds_congr hw fun w hw => nof_del R hi h0 hk hs hw
end
end Shp
/-
  What holds of code holds of code within a round of a range over a function (no defer in it).
-/
namespace Go.Ab
open Go
/-- the wide fence, in a round or in none -/
def FR (r : Option Nat) : Fence := { Fence.wide with round := r }
theorem calls_in {r : Option Nat} {n : Nat} {P : Program} {f : FuncId} {args : Array Value} {w : World} {R : Ending → World → Prop} (h : Calls P f args w R) : CallsIn (FR r) n P f args w R :=
  ⟨trivial, (callsIn_wide (n := n) |>.2 h).2⟩
theorem rows_in {r : Option Nat} {n : Nat} {P : Program} {row : String} {args : Array Value} {w : World} {R : Value → World → Prop} (h : Rows P row args w R) : RowsIn (FR r) n P row args w R :=
  fun c cs _ => let ⟨v, w', q, s⟩ := h c cs; ⟨v, w', q, stepsIn_wide.2 s⟩
def noDef (o : Oper) : Bool := match o.op with
  | .defer _ => false
  | _ => true
theorem noDef_ne {o : Oper} (h : noDef o = true) : ∀ c, o.op ≠ .defer c := fun c e => by unfold noDef at h; rw [e] at h; cases h
theorem op_in {r : Option Nat} {n : Nat} {P : Program} {o : Oper} {a : Act} {w : World} {K : Act → World → Prop} {Q : Exit → Act → World → Prop} (hd : noDef o = true) (h : o.wp P a w K Q) : o.wpIn (FR r) n P a w K Q := by
  unfold Oper.wp at h
  unfold Oper.wpIn
  refine ⟨fun _ _ => trivial, ?_⟩
  rw [show (FR r).round = r from rfl, Oper.semAt_eq r _ _ (noDef_ne hd)]
  generalize (execOp a.eval o).run P w = x at *
  cases x with
  | ok nx w' =>
    cases nx <;> simp only [Oper.upon, Oper.uponIn] at h ⊢ <;> first | exact h | exact ⟨(fun hh => by cases hh), calls_in h⟩ | exact ⟨(fun hh => by cases hh), rows_in h⟩
  | halt x w' => cases x <;> simp only [Oper.upon, Oper.uponIn] at h ⊢ <;> exact h
theorem wpOp_in {r : Option Nat} {n : Nat} {P : Program} {ops : Array Oper} {Q : Exit → Act → World → Prop} {i : Nat} {K K' : Act → World → Prop} {a : Act} {w : World} (hd : ∀ o, ops[i]? = some o → noDef o = true) (hQ : ¬ LetsOut Q) (hK : ∀ a w, K a w → K' a w) (h : wpOp P ops Q i K a w) : wpOpIn (FR r) n P ops Q i K' a w := by
  unfold wpOp at h
  unfold wpOpIn
  cases ho : ops[i]? with
  | none => rw [ho] at h; exact hK _ _ h
  | some o =>
    rw [ho] at h
    simp only at h ⊢
    by_cases hw : Region.wanted o (yielded ops a.tmps) = true
    · rw [if_pos hw] at h ⊢
      rcases h with h | ⟨_, h⟩
      · exact op_in (hd o ho) (Oper.wp_mono hK h)
      · exact absurd h hQ
    · rw [if_neg hw] at h ⊢
      exact ⟨fun _ _ => trivial, hK _ _ h⟩
theorem wpOps_in {r : Option Nat} {n : Nat} {P : Program} {ops : Array Oper} {Q : Exit → Act → World → Prop} (hd : ∀ (i : Nat) (o : Oper), ops[i]? = some o → noDef o = true) (hQ : ¬ LetsOut Q) : ∀ (l : List Nat) (a : Act) (w : World), wpOps P ops Q l a w → wpOpsIn (FR r) n P ops Q l a w
  | [], _, _, h => h
  | i :: rest, a, w, h => by
    rw [wpOps_cons] at h
    rw [wpOpsIn_cons]
    exact wpOp_in (hd i) hQ (fun a w h => wpOps_in hd hQ rest a w h) h
theorem wpAny_in {r : Option Nat} {n : Nat} {P : Program} {md : Region.Mode} {ops : Array Oper} {Q : Exit → Act → World → Prop} (hd : ∀ (i : Nat) (o : Oper), ops[i]? = some o → noDef o = true) (hQ : ¬ LetsOut Q) : ∀ (fuel : Nat) (listed : Array Bool) (a : Act) (w : World), wpAny P md ops Q fuel listed a w → wpAnyIn (FR r) n P md ops Q fuel listed a w
  | 0, _, _, _, h => h
  | fuel + 1, _, _, _, h => ⟨h.1, fun i hi => wpOp_in (hd i) hQ (fun a w h => wpAny_in hd hQ fuel _ a w h) (h.2 i hi)⟩
/-- no deferred call stands in this code -/
def ndC : Code → Bool
  | .region _ ⟨L⟩ _ => L.all noDef
  | .seq x y => ndC x && ndC y
  | .cond _ x y => ndC x && ndC y
  | .block _ c => ndC c
  | .loop c => ndC c
  | _ => true
/-- how a region is left: ahead -/
def onlyN (Q : Exit → Act → World → Prop) : Exit → Act → World → Prop
  | .normal, a, w => Q .normal a w
  | _, _, _ => False
theorem onlyN_out (Q : Exit → Act → World → Prop) : ¬ LetsOut (onlyN Q) := fun ⟨_, _, h⟩ => h
theorem onlyN_to {Q : Exit → Act → World → Prop} : ∀ e a w, onlyN Q e a w → Q e a w
  | .normal, _, _, h => h
theorem awp_sound_in {E : Env} (ok : EnvOk E) (r : Option Nat) (n : Nat) (c0 : Cx) (hG : c0.G = E.G) : ∀ (c : Code), ndC c = true → ∀ (Q : Exit → St → Prop) (σ : St) (a : Act) (w : World), awp E c Q σ → Sim E.n0 c0 E.N σ a w → c.wpIn (FR r) n E.P (Post E c0 Q) a w := by
  intro c
  induction c with
  | skip => intro _ Q σ a w h hs; exact wpIn_skip ⟨σ, h, hs⟩
  | label l => intro _ Q σ a w h hs; exact wpIn_label ⟨σ, h, hs⟩
  | exit id => intro _ Q σ a w h hs; exact wpIn_exit ⟨σ, h, hs⟩
  | goto l => intro _ Q σ a w h hs; exact wpIn_goto ⟨σ, h, hs⟩
  | ret => intro _ Q σ a w h hs; exact wpIn_ret ⟨σ, h, hs⟩
  | refuse s => intro _ Q σ a w h hs; exact h.elim
  | scope c _ => intro _ Q σ a w h hs; exact h.elim
  | rangeFunc f ps x y _ _ => intro _ Q σ a w h hs; exact h.elim
  | region id ops draw =>
    intro hnd Q σ a w h hs
    obtain ⟨L⟩ := ops
    have hnd : L.all noDef = true := hnd
    have hd : ∀ i o, (⟨L⟩ : Array Oper)[i]? = some o → noDef o = true := fun i o ho => List.all_eq_true.1 hnd o (by
      have := Array.mem_of_getElem? ho
      simpa using this)
    obtain ⟨P, D, G, N, n0, cuts⟩ := E
    have main : ∀ (T : List (Nat × AV)) (A : List AO), aReg P D G N L draw T A (fun T A => Q .normal ⟨T, A⟩) → Sim n0 c0 N ⟨T, A⟩ a w → (Code.region id ⟨L⟩ draw).wpIn (FR r) n P (Post ⟨P, D, G, N, n0, cuts⟩ c0 Q) a w := by
      intro T A h hs
      refine wpIn_mono ?_ (onlyN_to (Q := Post ⟨P, D, G, N, n0, cuts⟩ c0 Q))
      cases draw with
      | false =>
        obtain ⟨c, rfl, hA, H, hT, hE, hd', hN⟩ := hs
        have h : aOps P D G N L L T A (fun T A => Q .normal ⟨T, A⟩) := h
        have hA : c.A = A := hA
        have hG : c0.G = G := hG
        rw [← hA, ← hG] at h
        have := aOps_sound (Qc := onlyN (Post ⟨P, D, G, N, n0, cuts⟩ c0 Q)) ok.tab L 0 T c a (fun j => by simp) H hT hE hd' hN h fun c' a' T' H' hT' hE' hd' hN' hQ => ⟨⟨T', c'.A⟩, hQ, c', rfl, rfl, H', hT', hE', hd', hN'⟩
        refine wpIn_region (wpOps_in hd (onlyN_out _) _ _ _ ?_)
        rw [List.range_eq_range']
        simpa using this
      | true =>
        refine wpIn_region_any ok.mix (wpAny_in hd (onlyN_out _) _ _ _ _ ?_)
        obtain ⟨c, hw, hA, H, hT, hE, hd', hN⟩ := sim_heap (E := ⟨P, D, G, N, n0, cuts⟩) (w' := { w with drawn := w.drawn + 1 }) hs rfl ⟨rfl, rfl, rfl⟩
        rw [← hw]
        have h : aRegion P D G N L T A (fun T A => Q .normal ⟨T, A⟩) := h
        have hA : c.A = A := hA
        have hG : c0.G = G := hG
        rw [← hA, ← hG] at h
        have := aRegion_sound (Qc := onlyN (Post ⟨P, D, G, N, n0, cuts⟩ c0 Q)) ok.tab H hT hE hd' hN h fun c' a' T' H' hT' hE' hd' hN' hQ => ⟨⟨T', c'.A⟩, hQ, c', rfl, rfl, H', hT', hE', hd', hN'⟩
        simpa using this
    obtain ⟨T, A⟩ := σ
    unfold awp at h
    simp only at h
    split at h
    · exact main T A h hs
    · obtain ⟨T', A', he, h⟩ := h
      refine main T' A' h ?_
      obtain ⟨cx, hw, hA, H, hT, hE, hd, hN⟩ := hs
      obtain ⟨c', k1, k2, k3, k4, k5⟩ := he cx H hA hE.le.len _ hT
      exact ⟨c', k1.trans hw, k4, k3, k5, hE.trans k2, hd, hN⟩
  | seq x y ihx ihy =>
    intro hnd Q σ a w h hs
    unfold ndC at hnd
    simp only [Bool.and_eq_true] at hnd
    refine wpIn_seq (wpIn_mono (ihx hnd.1 _ σ a w h hs) fun e a' w' ⟨σ', hq, hs'⟩ => ?_)
    cases e with
    | normal => exact ihy hnd.2 Q σ' a' w' hq hs'
    | _ => exact ⟨σ', hq, hs'⟩
  | cond c x y ihx ihy =>
    intro hnd Q σ a w h hs
    unfold ndC at hnd
    simp only [Bool.and_eq_true] at hnd
    unfold awp at h
    split at h
    · rename_i b hb
      obtain ⟨cx, rfl, hA, H, hT, hE, hd, hN⟩ := hs
      have hv := hT.ev (a := a) c
      rw [hb] at hv
      refine wpIn_cond_split (rel_bool.1 hv) (fun ht => ihx hnd.1 Q σ a _ (h.1 ht) ⟨cx, rfl, hA, H, hT, hE, hd, hN⟩) (fun hf => ihy hnd.2 Q σ a _ (h.2 hf) ⟨cx, rfl, hA, H, hT, hE, hd, hN⟩)
    · exact h.elim
  | block id c ih =>
    intro hnd Q σ a w h hs
    refine wpIn_block (wpIn_mono (ih hnd _ σ a w h hs) fun e a' w' ⟨σ', hq, hs'⟩ => ?_)
    cases e with
    | exit i =>
      show if i = id then _ else _
      have hq : (match Nat.beq i id with | true => Q .normal σ' | false => Q (.exit i) σ') := hq
      by_cases hi : i = id
      · rw [if_pos hi]
        have : Nat.beq i id = true := by rw [hi]; simp
        rw [this] at hq; exact ⟨σ', hq, hs'⟩
      · rw [if_neg hi]
        have : Nat.beq i id = false := by
          cases hb : Nat.beq i id with
          | false => rfl
          | true => exact absurd (beq_eq hb) hi
        rw [this] at hq; exact ⟨σ', hq, hs'⟩
    | _ => exact ⟨σ', hq, hs'⟩
  | loop c ih =>
    intro hnd Q σ a w h hs
    obtain ⟨ι, S, I, μ, i0, h0, he, hround⟩ := h
    have ent : ∀ {σ σ' : St} {a : Act} {w : World}, Ent E.n0 σ σ' → Sim E.n0 c0 E.N σ a w → Sim E.n0 c0 E.N σ' a w := by
      intro σ σ' a w he ⟨cx, hw, hA, H, hT, hE, hd, hN⟩
      obtain ⟨c', k1, k2, k3, k4, k5⟩ := he cx H hA hE.le.len _ hT
      exact ⟨c', k1.trans hw, k4, k3, k5, hE.trans k2, hd, hN⟩
    let M : Act → World → Nat := fun a w => Classical.epsilon fun n => (∃ i, I i ∧ Sim E.n0 c0 E.N (S i) a w ∧ μ i = n) ∧ ∀ i, I i → Sim E.n0 c0 E.N (S i) a w → n ≤ μ i
    have hM : ∀ a w, (∃ i, I i ∧ Sim E.n0 c0 E.N (S i) a w) → (∃ i, I i ∧ Sim E.n0 c0 E.N (S i) a w ∧ μ i = M a w) ∧ ∀ i, I i → Sim E.n0 c0 E.N (S i) a w → M a w ≤ μ i := by
      intro a w ⟨i, hi, hsi⟩
      have : ∃ n, (∃ i, I i ∧ Sim E.n0 c0 E.N (S i) a w ∧ μ i = n) ∧ ∀ i, I i → Sim E.n0 c0 E.N (S i) a w → n ≤ μ i := by
        obtain ⟨m, ⟨j, j1, j2, j3⟩, hm⟩ := least_of (p := fun n => ∃ i, I i ∧ Sim E.n0 c0 E.N (S i) a w ∧ μ i = n) (μ i) ⟨i, hi, hsi, rfl⟩
        refine ⟨m, ⟨j, j1, j2, j3⟩, fun i' hi' hs' => ?_⟩
        rcases Nat.lt_or_ge (μ i') m with h | h
        · exact absurd ⟨i', hi', hs', rfl⟩ (hm _ h)
        · exact h
      exact Classical.epsilon_spec this
    refine wpIn_loop (fun a w => ∃ i, I i ∧ Sim E.n0 c0 E.N (S i) a w) M ⟨i0, h0, ent he hs⟩ fun a w hI => ?_
    obtain ⟨⟨i, hi, hsi, hμ⟩, _⟩ := hM a w hI
    refine wpIn_mono (ih hnd _ (S i) a w (hround i hi) hsi) fun e a' w' ⟨σ', hq, hs'⟩ => ?_
    cases e with
    | normal =>
      obtain ⟨j, hj, hlt, hej⟩ := hq
      have hsj := ent hej hs'
      refine ⟨⟨j, hj, hsj⟩, ?_⟩
      have := (hM a' w' ⟨j, hj, hsj⟩).2 j hj hsj
      omega
    | _ => exact ⟨σ', hq, hs'⟩
end Go.Ab
/-
  Code that has marks beside it (behind a range over a function): loads and assignments alone.
-/
namespace Go.Ab
open Go
def wd (a : Act) (ds : List Deferred) : Act := { a with defers := ds }
theorem wd_put (a : Act) (ds : List Deferred) (d : Option Tmp) (v : Value) : (wd a ds).put d v = wd (a.put d v) ds := by cases d <;> rfl
theorem wd_eval (a : Act) (ds : List Deferred) : (wd a ds).eval = a.eval := by funext o; cases o <;> rfl
def calmO (o : Oper) : Bool := match o.op with
  | .move _ => true
  | .assign _ => true
  | .load _ _ => true
  | .fieldAddr _ _ _ => true
  | _ => false
theorem calm_run {o : Oper} (h : calmO o = true) (ρ : Operand → Value) : ∃ s : Sem Value, execOp ρ o = (do pure (.value (← s))) ∧ noDef o = true := by
  unfold calmO at h
  unfold execOp noDef
  cases ho : o.op <;> rw [ho] at h <;> first | cases h | skip
  case move x => exact ⟨pure (ρ x), by simp, rfl⟩
  case assign x => exact ⟨pure (ρ x), by simp, rfl⟩
  case load t x => exact ⟨_, rfl, rfl⟩
  case fieldAddr s x f => exact ⟨_, rfl, rfl⟩
theorem op_ds {n : Nat} {P : Program} {o : Oper} {a : Act} {w : World} {ds : List Deferred} {K K' : Act → World → Prop} {Q Q' : Exit → Act → World → Prop} (hd : calmO o = true) (hK : ∀ a w, K a w → K' (wd a ds) w) (hQ : ∀ e a w, ¬ e = .normal → ¬ Q e a w) (h : o.wp P a w K Q) : o.wpIn (FR none) n P (wd a ds) w K' Q' := by
  obtain ⟨s, hs, hnd⟩ := calm_run hd a.eval
  unfold Oper.wp at h
  unfold Oper.wpIn
  refine ⟨fun _ _ => trivial, ?_⟩
  rw [show (FR none).round = none from rfl, Oper.semAt_eq none _ _ (noDef_ne hnd), wd_eval, hs]
  rw [hs] at h
  simp only [Sem.run_bind, Sem.run_pure] at h ⊢
  cases hx : s.run P w with
  | ok v w' =>
    rw [hx] at h
    simp only [Result.andThen_ok, Oper.upon, Oper.uponIn] at h ⊢
    rw [wd_put]; exact hK _ _ h
  | halt x w' =>
    rw [hx] at h
    cases x <;> simp only [Result.andThen, Oper.upon, Oper.uponIn] at h ⊢
    exact absurd h (hQ _ _ _ (by simp))
theorem wpOps_ds {n : Nat} {P : Program} {ops : Array Oper} {Q Q' : Exit → Act → World → Prop} {ds : List Deferred} (hd : ∀ (i : Nat) (o : Oper), ops[i]? = some o → calmO o = true) (hQ : ∀ e a w, ¬ e = .normal → ¬ Q e a w) (hN : ∀ a w, Q .normal a w → Q' .normal (wd a ds) w) : ∀ (l : List Nat) (a : Act) (w : World), wpOps P ops Q l a w → wpOpsIn (FR none) n P ops Q' l (wd a ds) w
  | [], _, _, h => hN _ _ h
  | i :: rest, a, w, h => by
    rw [wpOps_cons] at h
    rw [wpOpsIn_cons]
    unfold wpOp at h
    unfold wpOpIn
    cases ho : ops[i]? with
    | none => rw [ho] at h; exact wpOps_ds hd hQ hN rest _ _ h
    | some o =>
      rw [ho] at h
      simp only at h ⊢
      by_cases hw : Region.wanted o (yielded ops a.tmps) = true
      · rw [if_pos hw] at h
        rw [if_pos (show Region.wanted o (yielded ops (wd a ds).tmps) = true from hw)]
        rcases h with h | ⟨_, a', w', h⟩
        · exact op_ds (hd i o ho) (fun a w h => wpOps_ds hd hQ hN rest a w h) hQ h
        · exact absurd h (hQ _ _ _ (by simp))
      · rw [if_neg hw] at h
        rw [if_neg (show ¬ Region.wanted o (yielded ops (wd a ds).tmps) = true from hw), wd_put]
        exact ⟨fun _ _ => trivial, wpOps_ds hd hQ hN rest _ _ h⟩
def calmC : Code → Bool
  | .skip => true
  | .ret => true
  | .region _ ⟨L⟩ false => L.all calmO
  | .seq x y => calmC x && calmC y
  | _ => false
def PostD (E : Env) (c0 : Cx) (Q : Exit → St → Prop) (ds : List Deferred) : Exit → Act → World → Prop := fun e a w => ∃ a0, a = wd a0 ds ∧ Post E c0 Q e a0 w
theorem awp_sound_ds {E : Env} (ok : EnvOk E) (ds : List Deferred) (n : Nat) (c0 : Cx) (hG : c0.G = E.G) : ∀ (c : Code), calmC c = true → ∀ (Q : Exit → St → Prop) (σ : St) (a : Act) (w : World), awp E c Q σ → Sim E.n0 c0 E.N σ a w → c.wpIn (FR none) n E.P (PostD E c0 Q ds) (wd a ds) w := by
  intro c
  induction c with
  | skip => intro _ Q σ a w h hs; exact wpIn_skip ⟨a, rfl, σ, h, hs⟩
  | ret => intro _ Q σ a w h hs; exact wpIn_ret ⟨a, rfl, σ, h, hs⟩
  | seq x y ihx ihy =>
    intro hnd Q σ a w h hs
    unfold calmC at hnd
    simp only [Bool.and_eq_true] at hnd
    refine wpIn_seq (wpIn_mono (ihx hnd.1 _ σ a w h hs) fun e a' w' ⟨a0, ha, σ', hq, hs'⟩ => ?_)
    cases e with
    | normal => subst ha; exact ihy hnd.2 Q σ' a0 w' hq hs'
    | _ => exact ⟨a0, ha, σ', hq, hs'⟩
  | region id ops draw =>
    intro hnd Q σ a w h hs
    obtain ⟨L⟩ := ops
    cases draw with
    | true => cases hnd
    | false =>
      have hnd : L.all calmO = true := hnd
      have hd : ∀ (i : Nat) (o : Oper), (⟨L⟩ : Array Oper)[i]? = some o → calmO o = true := fun i o ho => List.all_eq_true.1 hnd o (by
        have := Array.mem_of_getElem? ho
        simpa using this)
      obtain ⟨P, D, G, N, n0, cuts⟩ := E
      have main : ∀ (T : List (Nat × AV)) (A : List AO), aReg P D G N L false T A (fun T A => Q .normal ⟨T, A⟩) → Sim n0 c0 N ⟨T, A⟩ a w → (Code.region id ⟨L⟩ false).wpIn (FR none) n P (PostD ⟨P, D, G, N, n0, cuts⟩ c0 Q ds) (wd a ds) w := by
        intro T A h hs
        obtain ⟨c, rfl, hA, H, hT, hE, hd', hN⟩ := hs
        have h : aOps P D G N L L T A (fun T A => Q .normal ⟨T, A⟩) := h
        have hA : c.A = A := hA
        have hG : c0.G = G := hG
        rw [← hA, ← hG] at h
        have := aOps_sound (Qc := onlyN (Post ⟨P, D, G, N, n0, cuts⟩ c0 Q)) ok.tab L 0 T c a (fun j => by simp) H hT hE hd' hN h fun c' a' T' H' hT' hE' hd' hN' hQ => ⟨⟨T', c'.A⟩, hQ, c', rfl, rfl, H', hT', hE', hd', hN'⟩
        refine wpIn_region (wpOps_ds (Q := onlyN (Post ⟨P, D, G, N, n0, cuts⟩ c0 Q)) hd (fun e a w he hq => by cases e <;> first | exact he rfl | exact hq) (fun a w h => ⟨a, rfl, h⟩) _ _ _ ?_)
        rw [List.range_eq_range']
        simpa using this
      obtain ⟨T, A⟩ := σ
      unfold awp at h
      simp only at h
      split at h
      · exact main T A h hs
      · obtain ⟨T', A', he, h⟩ := h
        refine main T' A' h ?_
        obtain ⟨cx, hw, hA, H, hT, hE, hd, hN⟩ := hs
        obtain ⟨c', k1, k2, k3, k4, k5⟩ := he cx H hA hE.le.len _ hT
        exact ⟨c', k1.trans hw, k4, k3, k5, hE.trans k2, hd, hN⟩
  | _ => intro hnd; cases hnd
end Go.Ab
/-
  A range over slices.Backward of ints.
-/
namespace Go.Ab
open Go Go.RowKit Go.Shelf
/-! ### blocks that are another's, turned or added -/
structure Turn (c c' : Cx) : Prop where
  A : c'.A = c.A
  ρ : c'.ρ = c.ρ
  G : c'.G = c.G
  I : ∀ b, c.I b → b < c.w.heap.size → c'.I b ∧ c'.w.heap[b]? = c.w.heap[b]?
  tok : ∀ t b, c.live t → c.ρ t = some b → ¬ c'.X b ∧ c'.w.heap[b]? = c.w.heap[b]?
  old : ∀ b, c'.X b → b < c'.w.heap.size
theorem Turn.le {c c' : Cx} (h : Turn c c') : Le c.A.length c c' := by
  refine ⟨h.I, fun t ht => ?_, by rw [h.A]; exact Nat.le_refl _⟩
  unfold TokLe
  rw [h.A, List.getElem?_eq_getElem ht]
  cases hA : c.A[t] with
  | row e xs =>
    refine .inl ⟨⟨xs, rfl⟩, by rw [h.ρ], fun b cs et hb hh => ⟨cs, ?_, rfl⟩⟩
    have := (h.tok t b ⟨_, (List.getElem?_eq_getElem ht).trans (congrArg some hA), rfl⟩ hb).2
    rw [this]; exact hh
  | box vs => exact .inl ⟨⟨vs, rfl⟩, by rw [h.ρ]⟩
  | mapo i vs => exact .inl ⟨⟨i, vs, rfl, rfl⟩, by rw [h.ρ]⟩
  | dead => trivial
  | room => rfl
theorem Turn.hr {c c' : Cx} (h : Turn c c') (H : HR c) : HR c' := by
  have lv : ∀ t, c'.live t → c.live t := fun t ⟨o, h1, h2⟩ => ⟨o, by rw [← h.A]; exact h1, h2⟩
  refine ⟨fun t b hl hb => (h.tok t b (lv t hl) (by rw [← h.ρ]; exact hb)).1, fun t u b h1 h2 h3 h4 => H.inj t u b (lv t h1) (lv u h2) (by rw [← h.ρ]; exact h3) (by rw [← h.ρ]; exact h4), fun t o ho => ?_, h.old, fun g v hg => (H.glo g v (by rw [← h.G]; exact hg)).mono h.I⟩
  have ho' : c.A[t]? = some o := by rw [← h.A]; exact ho
  have := H.obj t o ho'
  rw [h.ρ]
  cases o with
  | dead => trivial
  | room => trivial
  | row e xs =>
    rcases this with h1 | ⟨b, cs, et, h1, h2, h3⟩
    · exact .inl h1
    · refine .inr ⟨b, cs, et, h1, by rw [(h.tok t b ⟨_, ho', rfl⟩ h1).2]; exact h2, fun i hi => ?_⟩
      obtain ⟨ds, k1, k2⟩ := h3 i hi
      exact ⟨ds, k1.mono h.I, k2⟩
  | box vs =>
    obtain ⟨b, cs, et, h1, h2, h3⟩ := this
    exact ⟨b, cs, et, h1, by rw [(h.tok t b ⟨_, ho', rfl⟩ h1).2]; exact h2, RelL.mono h.le _ _ h3.ok h3⟩
  | mapo i vs =>
    obtain ⟨b, ob, us, h1, h2, h4, h3⟩ := this
    exact ⟨b, ob, us, h1, by rw [(h.tok t b ⟨_, ho', rfl⟩ h1).2]; exact h2, h4, RelL.mono h.le _ _ h3.ok h3⟩
theorem TR.le {c c' : Cx} (H : Le c.A.length c c') {T : List (Nat × AV)} {t : Array Value} (h : TR c T t) : TR c' T t := fun n => Rel.mono H _ _ (h n).ok (h n)
/-- a block of another's is written -/
theorem turn_put {c : Cx} (H : HR c) {r : Nat} (hr : c.X r) (o : Obj) : Turn c { c with w := c.w.putObj r o } where
  A := rfl
  ρ := rfl
  G := rfl
  I := fun _b h _ => ⟨h, World.putObj_heap_other (fun e => h.1 (e ▸ hr))⟩
  tok := fun t b hl hb => ⟨H.far t b hl hb, World.putObj_heap_other (fun e => H.far t b hl hb (e ▸ hr))⟩
  old := fun b hb => by
    have := H.old b hb
    show b < (c.w.putObj r o).heap.size
    simpa using this
theorem same_put (w : World) (r : Nat) (o : Obj) : WSame w (w.putObj r o) := ⟨rfl, rfl, rfl⟩
/-- what lies between the context that a function began in and the one behind its loop -/
structure Mid (n0 : Nat) (c0 c1 : Cx) (D : Nat) : Prop where
  le : Le n0 c0 c1
  G : c1.G = c0.G
  X : ∀ b, c0.X b → c1.X b
  XD : c1.X D
  dfr : c1.w.heap[D]? = some (.deferred (some []))
  notX : ¬ c0.X D
  notI : ∀ b, c0.I b → b < c0.w.heap.size → b ≠ D
  far : ∀ b, c0.X b → c1.w.heap[b]? = c0.w.heap[b]?
  st : WSame c0.w c1.w
def BackOk (P : Program) (f : Nat) : Prop := ∀ (n l Bs len : Nat) (zs : List Int), 1 ≤ n → 0 < len → len * 8 ≤ 140737488351232 → ∀ (J : Nat → World → Prop),
  (∀ k W, J k W → ∃ b off cap, W.cell? ⟨Bs, 0, none⟩ = some (.slice (some ⟨b, off, none⟩) len cap) ∧ ∀ j, j < len → W.cell? ⟨b, off + j, none⟩ = some (.int .i64 (zs[j]?.getD 0))) →
  (∀ k j W, J k W → k + j + 1 = len → YieldAt Fence.wide (n - 1) P l #[.int .i64 (j : Int), .int .i64 (zs[j]?.getD 0)] W fun e W' => e = .returned (.bool true) ∧ J (k + 1) W') →
  ∀ W, J 0 W → CallsIn Fence.wide n P f #[.func (.yield l) #[] #[], .pointer (some ⟨Bs, 0, none⟩)] W fun e W' => (∃ v, e = .returned v) ∧ J len W'
def rndQ (n : Nat) (A' : List AO) : Exit → St → Prop
  | .normal, σ => ∃ _u : Unit, Ent n σ ⟨[], A'⟩
  | _, _ => False
theorem fz_ints {c : Cx} {l : List Int} {v : Value} (h0 : 0 < l.length) (h : Rel c (.fz (.list (.int .i64)) l) v) : ∃ b off cap, v = .slice (some ⟨b, off, none⟩) l.length cap ∧ ∀ j, j < l.length → c.w.cell? ⟨b, off + j, none⟩ = some (.int .i64 (l[j]?.getD 0)) := by
  obtain ⟨p, cap, rfl, hf⟩ := rel_list h
  unfold FzC at hf
  obtain ⟨p', cap', e, hle, hall⟩ := hf
  cases e
  obtain ⟨b, off, cs, hp, _, _, _, _⟩ := hall 0 h0
  subst hp
  refine ⟨b, off, cap, rfl, fun j hj => ?_⟩
  obtain ⟨b', off', cs, hp, _, _, hc, hcell⟩ := hall j hj
  cases hp
  unfold FzC at hc
  subst hc
  have := hcell 0 (by simp)
  have hs : Ty.size (.int .i64) = 1 := rfl
  rw [hs] at this
  simpa [hj] using this
end Go.Ab
/-
  A range over slices.Backward of ints: the rule.
-/
namespace Go.Ab
open Go Go.RowKit Go.Shelf
theorem le_trans {n m : Nat} {c c' c'' : Cx} (h : Le n c c') (h' : Le m c' c'') (hn : n ≤ m) : Le n c c'' := by
  refine ⟨fun b hI hb => ?_, fun t ht => (h.tok t ht).trans (h'.tok t (by omega)), by have := h'.len; omega⟩
  obtain ⟨k1, k2⟩ := h.I b hI hb
  obtain ⟨k3, k4⟩ := h'.I b k1 (heap_lt hb k2)
  exact ⟨k3, k4.trans k2⟩
theorem Le.lower {n m : Nat} {c c' : Cx} (h : Le n c c') (hm : m ≤ n) : Le m c c' := ⟨h.I, fun t ht => h.tok t (by omega), by have := h.len; omega⟩
theorem box_tok {c c' : Cx} {t : Nat} (h : TokLe c c' t) {vs vs' : List AV} (h1 : c.A[t]? = some (.box vs)) (h2 : c'.A[t]? = some (.box vs')) : c'.ρ t = c.ρ t := by
  unfold TokLe at h
  rw [h1, h2] at h
  rcases h with ⟨_, h⟩ | ⟨e, xs, h⟩ | h
  · first | exact h | exact h.symm
  · cases h
  · cases h
theorem rf_wp {E : Env} (ok : EnvOk E) {f : Nat} (hback : BackOk E.P f) (hent : ∀ args w, (callFunc f args).run E.P w = .ok (.enter f args) w) {g : Operand} {p0 p1 : Nat} {assign body : Code} (nda : ndC assign = true) (ndb : ndC body = true)
    {c0 : Cx} (hG : c0.G = E.G) {T : List (Nat × AV)} {A : List AO} {tok : Nat} {l : List Int} (hp0 : p0 < E.N) (hp1 : p1 < E.N)
    (hg : ev T g = .fn f [.ptr tok 0]) (h0 : 0 < l.length) (h8 : l.length * 8 ≤ 140737488351232)
    (S : Nat → List AO) (hS0 : S 0 = A) (hSt : ∀ k, k ≤ l.length → (S k)[tok]? = some (.box [.fz (.list (.int .i64)) l])) (hSl : ∀ k, k ≤ l.length → (S k).length = A.length)
    (hround : ∀ k j, k + j + 1 = l.length → awp ⟨E.P, E.D, E.G, E.N, A.length, E.cuts⟩ assign (thenQ (awp ⟨E.P, E.D, E.G, E.N, A.length, E.cuts⟩ body (rndQ A.length (S (k + 1)))) fun _ _ => False) ⟨(p1, .fz (.int .i64) (l[j]?.getD 0)) :: (p0, .fz (.int .i64) (j : Int)) :: T, S k⟩)
    {a : Act} {w : World} (hs : Sim E.n0 c0 E.N ⟨T, A⟩ a w) {QQ : Exit → Act → World → Prop}
    (hQQ : ∀ (D : Nat) (c1 : Cx), Mid E.n0 c0 c1 D → HR c1 → c1.A = S l.length → TR c1 T a.tmps → a.tmps.size = E.N → QQ .normal (wd a [{ target := .collected D, args := #[] }]) c1.w) :
    (Code.rangeFunc g #[p0, p1] assign body).wpIn (FR none) 2 E.P QQ a w := by
  obtain ⟨c, rfl, hA, H, hT, hE, hd, hN⟩ := hs
  have hA : c.A = A := hA
  have hT : TR c T a.tmps := hT
  have ok1 : EnvOk ⟨E.P, E.D, E.G, E.N, A.length, E.cuts⟩ := ⟨ok.tab, ok.mix⟩
  -- the iterator's value
  have hv := hT.ev (a := a) g
  rw [hg] at hv
  unfold Rel at hv
  obtain ⟨vs, hgv, hvs⟩ := hv
  unfold RelL at hvs
  obtain ⟨v, r, rfl, hv, hr⟩ := hvs
  unfold RelL at hr
  subst hr
  have hAt : c.A[tok]? = some (.box [.fz (.list (.int .i64)) l]) := by rw [hA, ← hS0]; exact hSt 0 (Nat.zero_le _)
  unfold Rel at hv
  rw [hAt] at hv
  obtain ⟨B, hB, rfl⟩ := hv
  have hgv : a.eval g = .func (.func f) #[] #[.pointer (some ⟨B, 0, none⟩)] := hgv
  refine wpIn_rangeFunc fun fn _ => ?_
  rw [show (FR none).round = none from rfl]
  obtain ⟨D, hD⟩ : ∃ D, D = c.w.heap.size := ⟨_, rfl⟩
  obtain ⟨rec, hrec⟩ : ∃ rec : LoopState → Loop, rec = fun st => { state := st, pending := none, fn, tmps := a.tmps, params := #[p0, p1], assign, body, defers := c.w.heap.size } := ⟨_, rfl⟩
  obtain ⟨W1, hW1⟩ : ∃ W1, (c.w.alloc (.deferred (some []))).alloc (.loop (rec .ready)) = W1 := ⟨_, rfl⟩
  have hsz : W1.heap.size = D + 2 := by rw [← hW1, World.size_alloc, World.size_alloc, hD]
  have hold : ∀ b, b < c.w.heap.size → W1.heap[b]? = c.w.heap[b]? := fun b hb => by
    rw [← hW1]; exact (heap_alloc_old _ _ (by rw [World.size_alloc]; omega)).trans (heap_alloc_old _ _ hb)
  have hL1 : W1.heap[D + 1]? = some (.loop (rec .ready)) := by
    rw [← hW1, hD]; have := World.alloc_heap_new (c.w.alloc (.deferred (some []))) (.loop (rec .ready)); rwa [World.size_alloc] at this
  have hD1 : W1.heap[D]? = some (.deferred (some [])) := by
    rw [← hW1, hD]; exact (heap_alloc_old _ _ (by rw [World.size_alloc]; omega)).trans (World.alloc_heap_new c.w _)
  let cD : Cx := { c with w := W1, X := fun b => c.X b ∨ b = D ∨ b = D + 1 }
  have tD : Turn c cD := by
    refine ⟨rfl, rfl, rfl, fun b hI hb => ⟨⟨fun hx => ?_, hI.2⟩, hold b hb⟩, fun t b hl hb => ?_, fun b hb => ?_⟩
    · rcases hx with hx | hx | hx
      · exact hI.1 hx
      · omega
      · omega
    · have hlt : b < c.w.heap.size := by
        obtain ⟨o, h1, h2⟩ := hl
        have := H.obj t o h1
        rw [hb] at this
        exact this.lt h2
      refine ⟨fun hx => ?_, hold b hlt⟩
      rcases hx with hx | hx | hx
      · exact H.far t b hl hb hx
      · omega
      · omega
    · show b < W1.heap.size
      rcases hb with hb | hb | hb
      · have := H.old b hb; omega
      · omega
      · omega
  have HD : HR cD := tD.hr H
  have TD : TR cD T a.tmps := hT.le tD.le
  have sD : WSame c.w W1 := by rw [← hW1]; exact ⟨rfl, rfl, rfl⟩
  have hlen : cD.A.length = A.length := congrArg List.length hA
  obtain ⟨J, hJ⟩ : ∃ J : Nat → World → Prop, J = fun k W => k ≤ l.length ∧ ∃ c1 : Cx, c1.w = W ∧ HR c1 ∧ c1.A = S k ∧ Le A.length cD c1 ∧ c1.X = cD.X ∧ c1.G = cD.G ∧ WSame cD.w c1.w ∧ (∀ b, cD.X b → b ≠ D + 1 → c1.w.heap[b]? = cD.w.heap[b]?) ∧ W.heap[D + 1]? = some (.loop (rec .ready)) := ⟨_, rfl⟩
  have hJ0 : J 0 W1 := by
    rw [hJ]
    exact ⟨Nat.zero_le _, cD, rfl, HD, hA.trans hS0.symm, ⟨fun _ h _ => ⟨h, rfl⟩, fun t h => TokLe.refl (by rw [hlen]; exact h), by rw [hlen]; exact Nat.le_refl _⟩, rfl, rfl, WSame.refl _, fun _ _ _ => rfl, hL1⟩
  refine ⟨D + 1, [{ target := .collected D, args := #[] }], W1, { target := .fn (.func f) #[.pointer (some ⟨B, 0, none⟩)], args := #[.func (.yield (D + 1)) #[] #[]] }, W1, f,
    #[.func (.yield (D + 1)) #[] #[]] ++ #[.pointer (some ⟨B, 0, none⟩)], W1, ?_, ?_, fun _ _ => trivial, ?_, fun h => (by cases h), ?_⟩
  · rw [← hW1, hrec, hD]; exact run_enterLoop_outer _ _ _ _ _
  · simp only [resolve, hgv]
    simp [go_sem]
  · simp [invoke, go_sem, hent]
  · refine CallsIn.mono (hback (2 - 1) (D + 1) B l.length l (by omega) h0 h8 J ?_ ?_ W1 hJ0) ?_
    · -- the slice is read
      intro k W hk
      rw [hJ] at hk
      obtain ⟨hkl, c1, rfl, H1, hA1, le1, _⟩ := hk
      have hAt1 : c1.A[tok]? = some (.box [.fz (.list (.int .i64)) l]) := by rw [hA1]; exact hSt k hkl
      have htl : tok < A.length := by rw [← hA]; exact get_lt hAt
      have hρ : c1.ρ tok = cD.ρ tok := box_tok (le1.tok tok htl) (show cD.A[tok]? = _ from hAt) hAt1
      obtain ⟨b, cs, et, k1, k2, k3⟩ := H1.obj tok _ hAt1
      unfold RelL at k3
      obtain ⟨v, r, rfl, k3, k4⟩ := k3
      unfold RelL at k4
      subst k4
      rw [hρ, show cD.ρ tok = some B from hB] at k1
      cases k1
      obtain ⟨b', off, cap, rfl, hcell⟩ := fz_ints h0 k3
      exact ⟨b', off, cap, by unfold World.cell?; simp [k2], hcell⟩
    · -- one round
      intro k j W hk hkj
      rw [hJ] at hk
      obtain ⟨hkl, c1, rfl, H1, hA1, le1, X1, G1, st1, far1, hl1⟩ := hk
      have T1 : TR c1 T a.tmps := TD.le (by rw [hlen]; exact le1)
      have hG1 : c1.G = E.G := G1.trans (hE.G.trans hG)
      have x1 : c1.X (D + 1) := by rw [X1]; exact .inr (.inr rfl)
      have hy := run_yield (P := E.P) (args := #[.int .i64 (j : Int), .int .i64 (l[j]?.getD 0)]) hl1 (by rw [hrec]; rfl)
      rw [hrec] at hy
      let a1 : Act := ((wd a []).put (some p0) (.int .i64 (j : Int))).put (some p1) (.int .i64 (l[j]?.getD 0))
      obtain ⟨t1, n1, _⟩ := put_tr (a := wd a []) (d := some p0) (v := .fz (.int .i64) (j : Int)) (u := .int .i64 (j : Int)) (N := E.N) T1 hN (by show Nat.blt p0 E.N = true; simpa using hp0) (by unfold Rel; exact ⟨_, rfl, rfl⟩)
      obtain ⟨t2, n2, _⟩ := put_tr (d := some p1) (v := .fz (.int .i64) (l[j]?.getD 0)) (u := .int .i64 (l[j]?.getD 0)) (N := E.N) t1 n1 (by show Nat.blt p1 E.N = true; simpa using hp1) (by unfold Rel; exact ⟨_, rfl, rfl⟩)
      refine ⟨fn, a1.tmps, assign, body, ?_, roundIn_of_wpIn trivial ?_⟩
      · show _ = Result.ok (Next.round (D + 1) fn ((a.tmps.setIfInBounds p0 _).setIfInBounds p1 _) assign body) c1.w
        simpa using hy
      have hsim : Sim A.length c1 E.N ⟨(p1, .fz (.int .i64) (l[j]?.getD 0)) :: (p0, .fz (.int .i64) (j : Int)) :: T, S k⟩ a1 c1.w := ⟨c1, rfl, hA1, H1, t2, ExtN.refl (by rw [hA1, hSl k hkl]; exact Nat.le_refl _), rfl, n2⟩
      refine wpIn_mono (awp_sound_in ok1 (some (D + 1)) _ c1 hG1 assign nda _ _ _ _ (hround k j hkj) hsim) fun e a' w' ⟨σ1, hq, hs1⟩ => ?_
      cases e with
      | normal =>
        obtain ⟨c2, rfl, hA2, H2, hT2, hE2, hd2, hN2⟩ := hs1
        have x2 : c2.X (D + 1) := by rw [hE2.X]; exact x1
        have hl2 : c2.w.heap[D + 1]? = some (.loop (rec .ready)) := (hE2.far _ x1).trans hl1
        refine ⟨_, run_beginRound hl2 (by rw [hrec]), ?_⟩
        obtain ⟨o2, ho2⟩ : ∃ o2, o2 = Obj.loop { rec .ready with state := .busy } := ⟨_, rfl⟩
        rw [← ho2]
        have t2' := turn_put H2 x2 o2
        have H2' := t2'.hr H2
        have hl2' : (c2.w.putObj (D + 1) o2).heap[D + 1]? = some o2 := World.putObj_heap_same (some_lt hl2)
        refine wpIn_mono (awp_sound_in ok1 (some (D + 1)) _ { c2 with w := c2.w.putObj (D + 1) o2 } (hE2.G.trans hG1) body ndb _ σ1 a' _ hq ⟨{ c2 with w := c2.w.putObj (D + 1) o2 }, rfl, hA2, H2', hT2.le t2'.le, ExtN.refl hE2.le.len, hd2, hN2⟩) fun e a3 w3 ⟨σ3, hq3, hs3⟩ => ?_
        cases e with
        | normal =>
          obtain ⟨c3, rfl, hA3, H3, hT3, hE3, hd3, hN3⟩ := hs3
          obtain ⟨_, hq3⟩ : ∃ _u : Unit, Ent A.length σ3 ⟨[], S (k + 1)⟩ := hq3
          obtain ⟨c4, hw4, hE4, H4, hA4, _⟩ := hq3 c3 H3 hA3 hE3.le.len _ hT3
          have hl3 : c3.w.heap[D + 1]? = some o2 := (hE3.far _ x2).trans hl2'
          rw [ho2] at hl3
          have hr3 := run_endRound (P := E.P) none hl3
          have e3 : ({ { rec .ready with state := .busy } with state := if (none : Option Code).isNone then .ready else .done, pending := none } : Loop) = rec .ready := by rw [hrec]; rfl
          rw [e3] at hr3
          refine ⟨_, _, hr3, rfl, ?_⟩
          have x3 : c3.X (D + 1) := by rw [hE3.X]; exact x2
          have x4 : c4.X (D + 1) := by rw [hE4.X]; exact x3
          have t4 := turn_put H4 x4 (.loop (rec .ready))
          rw [hJ, ← hw4]
          refine ⟨by omega, { c4 with w := c4.w.putObj (D + 1) (.loop (rec .ready)) }, rfl, t4.hr H4, hA4, ?_, ?_, ?_, ?_, ?_, ?_⟩
          · have l3 := le_trans hE4.le t4.le hE4.le.len
            have l2 := le_trans hE3.le l3 (Nat.le_refl _)
            have l1 := le_trans (t2'.le.lower hE2.le.len) l2 (Nat.le_refl _)
            exact le_trans le1 (le_trans hE2.le l1 (Nat.le_refl _)) (Nat.le_refl _)
          · exact hE4.X.trans (hE3.X.trans (hE2.X.trans X1))
          · exact hE4.G.trans (hE3.G.trans (hE2.G.trans G1))
          · exact st1.trans (hE2.st.trans ((same_put _ _ _).trans (hE3.st.trans (hE4.st.trans (same_put _ _ _)))))
          · intro b hb hne
            have y1 : c1.X b := by rw [X1]; exact hb
            have y2 : c2.X b := by rw [hE2.X]; exact y1
            have y3 : c3.X b := by rw [hE3.X]; exact y2
            refine (World.putObj_heap_other hne).trans ((hE4.far b y3).trans ((hE3.far b y2).trans ?_))
            exact (World.putObj_heap_other hne).trans ((hE2.far b y1).trans (far1 b hb hne))
          · exact World.putObj_heap_same (by rw [hw4]; exact some_lt hl3)
        | _ => exact hq3.elim
      | _ => exact hq.elim
    · -- behind the iterator
      rintro e W' ⟨⟨v, rfl⟩, hk⟩
      rw [hJ] at hk
      obtain ⟨hkl, c1, rfl, H1, hA1, le1, X1, G1, st1, far1, hl1⟩ := hk
      have x1 : c1.X (D + 1) := by rw [X1]; exact .inr (.inr rfl)
      have hr := run_endLoop (P := E.P) hl1 (by rw [hrec]; simp)
      have pend : (rec .ready).pending = none := by rw [hrec]
      rw [pend] at hr
      refine ⟨none, _, hr, ?_⟩
      show QQ .normal _ (c1.w.putObj (D + 1) (.loop { rec .ready with state := .exhausted, pending := none }))
      generalize Obj.loop { rec .ready with state := .exhausted, pending := none } = o1
      have t1 := turn_put H1 x1 o1
      have T1 : TR c1 T a.tmps := TD.le (by rw [hlen]; exact le1)
      have hl1' : A.length ≤ c1.A.length := le1.len
      have := hQQ D { c1 with w := c1.w.putObj (D + 1) o1 } ⟨?_, ?_, ?_, ?_, ?_, ?_, ?_, ?_, ?_⟩ (t1.hr H1) hA1 (T1.le t1.le) hN
      · unfold wd at this
        show QQ .normal { a with defers := [{ target := .collected D, args := #[] }] ++ a.defers } _
        rw [hd]; exact this
      · have l1 := le_trans le1 t1.le hl1'
        have l2 := le_trans tD.le l1 (Nat.le_of_eq (congrArg List.length hA))
        exact le_trans hE.le l2 hE.le.len
      · exact G1.trans hE.G
      · intro b hb
        show c1.X b
        rw [X1]; exact .inl (by rw [hE.X]; exact hb)
      · show c1.X D
        rw [X1]; exact .inr (.inl rfl)
      · exact (World.putObj_heap_other (by omega)).trans ((far1 D (.inr (.inl rfl)) (by omega)).trans hD1)
      · intro hx
        have := H.old D (by rw [hE.X]; exact hx)
        omega
      · intro b hI hb
        obtain ⟨k1, k2⟩ := hE.le.I b hI hb
        have := heap_lt hb k2
        omega
      · intro b hb
        have hb' : c.X b := by rw [hE.X]; exact hb
        have := H.old b hb'
        exact (World.putObj_heap_other (by omega)).trans ((far1 b (.inl hb') (by omega)).trans ((hold b this).trans (hE.far b hb)))
      · exact hE.st.trans (sD.trans (st1.trans (same_put _ _ _)))
end Go.Ab
/-
  Functions in which a range over slices.Backward stands.
-/
namespace Go.Ab
open Go Go.RowKit Go.Shelf
def hasRF : Code → Bool
  | .rangeFunc _ _ _ _ => true
  | .seq x y => hasRF x || hasRF y
  | .block _ c => hasRF c
  | _ => false
/-- the loop stands where it may, and what follows it is calm -/
def okRF : Code → Bool
  | .rangeFunc _ ps x y => ndC x && ndC y && Nat.beq ps.size 2
  | .seq x y => match hasRF x with
    | true => okRF x && calmC y
    | false => okRF y
  | .block _ c => okRF c
  | _ => true
def RFc (E : Env) (f : Nat) (g : Operand) (p0 p1 : Nat) (assign body : Code) (M : St → Prop) (σ : St) : Prop :=
  ∃ (T : List (Nat × AV)) (A : List AO) (tok : Nat) (l : List Int) (S : Nat → List AO), Ent E.n0 σ ⟨T, A⟩ ∧ (Nat.blt p0 E.N = true ∧ Nat.blt p1 E.N = true) ∧ ev T g = .fn f [.ptr tok 0] ∧ 0 < l.length ∧ l.length * 8 ≤ 140737488351232 ∧ S 0 = A ∧
    (∀ k, k ≤ l.length → (S k)[tok]? = some (.box [.fz (.list (.int .i64)) l])) ∧ (∀ k, k ≤ l.length → (S k).length = A.length) ∧
    (∀ k j, k + j + 1 = l.length → awp ⟨E.P, E.D, E.G, E.N, A.length, E.cuts⟩ assign (thenQ (awp ⟨E.P, E.D, E.G, E.N, A.length, E.cuts⟩ body (rndQ A.length (S (k + 1)))) fun _ _ => False) ⟨(p1, .fz (.int .i64) (l[j]?.getD 0)) :: (p0, .fz (.int .i64) (j : Int)) :: T, S k⟩) ∧
    M ⟨T, S l.length⟩
def awpR (E : Env) (f : Nat) : Code → (Exit → St → Prop) → (Exit → St → Prop) → St → Prop
  | .seq x y, Q, M, σ => match hasRF x with
    | true => awpR E f x (thenQ (awp E y Q) Q) (thenQ (awp E y M) M) σ
    | false => awp E x (thenQ (awpR E f y Q M) Q) σ
  | .block id c, Q, M, σ => awpR E f c (blkQ id Q) (blkQ id M) σ
  | .rangeFunc g ⟨[p0, p1]⟩ x y, _, M, σ => RFc E f g p0 p1 x y (M .normal) σ
  | .rangeFunc _ _ _ _, _, _, _ => False
  | c, Q, _, σ => awp E c Q σ
def PostR (E : Env) (c0 : Cx) (Q M : Exit → St → Prop) : Exit → Act → World → Prop := fun e a w => Post E c0 Q e a w ∨ ∃ D c1, Mid E.n0 c0 c1 D ∧ PostD E c1 M [{ target := .collected D, args := #[] }] e a w
theorem post_blk {E : Env} {c0 : Cx} {Q : Exit → St → Prop} {id : Nat} {e : Exit} {a : Act} {w : World} (h : Post E c0 (blkQ id Q) e a w) : Exit.inBlock id (Post E c0 Q) e a w := by
  obtain ⟨σ', hq, hs'⟩ := h
  cases e with
  | exit i =>
    show if i = id then _ else _
    have hq : (match Nat.beq i id with | true => Q .normal σ' | false => Q (.exit i) σ') := hq
    by_cases hi : i = id
    · rw [if_pos hi]
      have : Nat.beq i id = true := by rw [hi]; simp
      rw [this] at hq; exact ⟨σ', hq, hs'⟩
    · rw [if_neg hi]
      have : Nat.beq i id = false := by
        cases hb : Nat.beq i id with
        | false => rfl
        | true => exact absurd (beq_eq hb) hi
      rw [this] at hq; exact ⟨σ', hq, hs'⟩
  | _ => exact ⟨σ', hq, hs'⟩
theorem inBlock_mono {id : Nat} {Q Q' : Exit → Act → World → Prop} (h : ∀ e a w, Q e a w → Q' e a w) : ∀ e a w, Exit.inBlock id Q e a w → Exit.inBlock id Q' e a w := fun e a w hq => by
  cases e with
  | exit i =>
    have hq : (if i = id then Q .normal a w else Q (.exit i) a w) := hq
    show if i = id then Q' .normal a w else Q' (.exit i) a w
    by_cases hi : i = id
    · rw [if_pos hi] at hq ⊢; exact h _ _ _ hq
    · rw [if_neg hi] at hq ⊢; exact h _ _ _ hq
  | _ => exact h _ _ _ hq
theorem awpR_sound {E : Env} (ok : EnvOk E) {f : Nat} (hback : BackOk E.P f) (hent : ∀ args w, (callFunc f args).run E.P w = .ok (.enter f args) w) (c0 : Cx) (hG : c0.G = E.G) : ∀ (c : Code), okRF c = true → ∀ (Q M : Exit → St → Prop) (σ : St) (a : Act) (w : World), awpR E f c Q M σ → Sim E.n0 c0 E.N σ a w → c.wpIn (FR none) 2 E.P (PostR E c0 Q M) a w := by
  have plain : ∀ (c : Code) (Q M : Exit → St → Prop) (σ : St) (a : Act) (w : World), awp E c Q σ → Sim E.n0 c0 E.N σ a w → c.wpIn (FR none) 2 E.P (PostR E c0 Q M) a w := fun c Q M σ a w h hs =>
    wpIn_mono (wpIn_wide (n := 2) |>.2 (awp_sound ok c0 hG c Q σ a w h hs)) fun _ _ _ h => .inl h
  intro c
  induction c with
  | seq x y ihx ihy =>
    intro hok Q M σ a w h hs
    unfold okRF at hok
    unfold awpR at h
    cases hx : hasRF x with
    | true =>
      rw [hx] at hok h
      simp only [Bool.and_eq_true] at hok h
      refine wpIn_seq (wpIn_mono (ihx hok.1 _ _ σ a w h hs) fun e a' w' hp => ?_)
      rcases hp with ⟨σ', hq, hs'⟩ | ⟨D, c1, hm, a0, rfl, σ', hq, hs'⟩
      · cases e with
        | normal => exact plain y Q M σ' a' w' hq hs'
        | _ => exact .inl ⟨σ', hq, hs'⟩
      · cases e with
        | normal => exact wpIn_mono (awp_sound_ds ok _ 2 c1 (hm.G.trans hG) y hok.2 M σ' a0 w' hq hs') fun e a w h => .inr ⟨D, c1, hm, h⟩
        | _ => exact .inr ⟨D, c1, hm, a0, rfl, σ', hq, hs'⟩
    | false =>
      rw [hx] at hok h
      simp only at hok h
      refine wpIn_seq (wpIn_mono (wpIn_wide (n := 2) |>.2 (awp_sound ok c0 hG x _ σ a w h hs)) fun e a' w' ⟨σ', hq, hs'⟩ => ?_)
      cases e with
      | normal => exact ihy hok Q M σ' a' w' hq hs'
      | _ => exact .inl ⟨σ', hq, hs'⟩
  | block id c ih =>
    intro hok Q M σ a w h hs
    refine wpIn_block (wpIn_mono (ih hok _ _ σ a w h hs) fun e a' w' hp => ?_)
    rcases hp with hp | ⟨D, c1, hm, a0, rfl, hp⟩
    · exact inBlock_mono (fun _ _ _ h => .inl h) _ _ _ (post_blk hp)
    · have := post_blk hp
      cases e with
      | exit i =>
        have this : (if i = id then Post E c1 M .normal a0 w' else Post E c1 M (.exit i) a0 w') := this
        show if i = id then _ else _
        by_cases hi : i = id
        · rw [if_pos hi] at this ⊢; exact .inr ⟨D, c1, hm, a0, rfl, this⟩
        · rw [if_neg hi] at this ⊢; exact .inr ⟨D, c1, hm, a0, rfl, this⟩
      | _ => exact .inr ⟨D, c1, hm, a0, rfl, this⟩
  | rangeFunc g ps x y _ _ =>
    intro hok Q M σ a w h hs
    obtain ⟨ps⟩ := ps
    match ps, hok, h with
    | [p0, p1], hok, h =>
      unfold okRF at hok
      simp only [Bool.and_eq_true] at hok
      obtain ⟨T, A, tok, l, S, he, ⟨h0, h1⟩, hg, hl, h8, hS0, hSt, hSl, hr, hM⟩ := h
      have hs' : Sim E.n0 c0 E.N ⟨T, A⟩ a w := by
        obtain ⟨cx, hw, hA, H, hT, hE, hd, hN⟩ := hs
        obtain ⟨c', k1, k2, k3, k4, k5⟩ := he cx H hA hE.le.len _ hT
        exact ⟨c', k1.trans hw, k4, k3, k5, hE.trans k2, hd, hN⟩
      have hd : a.defers = [] := by obtain ⟨_, _, _, _, _, _, hd, _⟩ := hs; exact hd
      refine rf_wp ok hback hent hok.1.1 hok.1.2 hG (by simpa using h0) (by simpa using h1) hg hl h8 S hS0 hSt hSl hr hs' fun D c1 hm H1 hA1 hT1 hN1 => ?_
      refine .inr ⟨D, c1, hm, a, rfl, ⟨T, S l.length⟩, hM, c1, rfl, hA1, H1, hT1, ExtN.refl hm.le.len, hd, hN1⟩
    | [], _, h => exact h.elim
    | [_], _, h => exact h.elim
    | _ :: _ :: _ :: _, _, h => exact h.elim
  | _ => intro _ Q M σ a w h hs; exact plain _ Q M σ a w h hs
/-! ### functions -/
theorem fin_ok {E : Env} (ok : EnvOk E) {cx : Cx} (hG : cx.G = E.G) (hn0 : E.n0 = cx.A.length) {fn : Func} {K : AV → List AO → Prop} {σ : St} {tmps : Array Value} {c1 : Cx} (hA1 : c1.A = σ.A) (H1 : HR c1) (hT1 : TR c1 σ.T tmps) (hE1 : ExtN E.n0 cx c1)
    (h : runL (resVs E.D E.G σ.A σ.T fn.results.toList) (fun r => Done E K r σ.A)) : ∃ v, (results fn tmps).run E.P c1.w = .ok v c1.w ∧ ∃ v_1 c' r, Ending.returned v = .returned v_1 ∧ c'.w = c1.w ∧ Ext cx c' ∧ HR c' ∧ Rel c' r v_1 ∧ K r c'.A := by
  obtain ⟨hC, hK⟩ := runL_of h
  have hG1 : c1.G = E.G := hE1.G.trans hG
  rw [← hA1, ← hG1] at hC hK
  obtain ⟨us, k1, k2⟩ := resVs_sound ok.tab H1 hT1 fn.results.toList hC
  obtain ⟨r', A', he, hk⟩ := hK
  have hrun : ∃ v, (results fn tmps).run E.P c1.w = .ok v c1.w ∧ Rel c1 (retV (resVs E.D c1.G c1.A σ.T fn.results.toList).2) v := by
    have hl := k2.length
    have hm : (fn.results.mapM (resOf tmps)).run E.P c1.w = .ok us.toArray c1.w := by
      rw [Array.mapM_eq_mapM_toList, Sem.run_map, k1]; rfl
    refine ⟨if h : us.toArray.size = 1 then us.toArray[0] else .tuple us.toArray, ?_, ?_⟩
    · rw [results_eq]
      simp only [Sem.run_bind, hm, Result.andThen_ok, Sem.run_pure]
    · generalize (resVs E.D c1.G c1.A σ.T fn.results.toList).2 = rs at *
      match rs, us, k2, hl with
      | [], [], _, _ => simp; unfold retV Rel; exact ⟨[], rfl, by unfold RelL; rfl⟩
      | [r], [u], h, _ => simp; unfold RelL at h; obtain ⟨v, l, e, h1, _⟩ := h; cases e; exact h1
      | r :: r2 :: rs, u :: u2 :: us, h, _ =>
        rw [dif_neg (by simp)]
        unfold retV Rel
        exact ⟨_, rfl, h⟩
  obtain ⟨v, hv1, hv2⟩ := hrun
  obtain ⟨c2, j1, j2, j3, j4, j5⟩ := he c1 H1 rfl hE1.le.len v hv2
  refine ⟨v, hv1, v, c2, r', rfl, j1, ?_, j3, j5, by rw [j4]; exact hk⟩
  have := hE1.trans j2
  rw [hn0] at this
  exact ⟨this.le, this.X, this.G, this.far, this.st⟩
theorem acall_mkR {E : Env} (ok : EnvOk E) {f : FuncId} {fn : Func} {c : Code} {args : List AV} {A : List AO} {K : AV → List AO → Prop} {bf : Nat} (hback : BackOk E.P bf) (hent : ∀ args w, (callFunc bf args).run E.P w = .ok (.enter bf args) w) (hf : E.P.funcs[f]? = some fn) (hb : fn.body = some c) (hnm : (fn.name == "runtime.NumGoroutine") = false) (hN : fn.ntmps = E.N) (hle : Nat.ble args.length E.N = true) (hn0 : A.length = E.n0) (hok : okRF c = true)
    (h : awpR E bf c (retQ E fn.results.toList K) (retQ E fn.results.toList K) ⟨zipT args 0, A⟩) : ACall E.P E.G f args A K := by
  refine ⟨trivial, fun cx H hA hG vs hv => .inl ⟨⟨fn, hf, by rw [hb]; rfl, hnm⟩, ?_⟩⟩
  have hvl := hv.length
  have hle := Nat.le_of_ble_eq_true hle
  refine callsIn_wide (n := 2) |>.1 (callsIn_of_wp_marks hf hb trivial ?_ rfl)
  have hs : Sim E.n0 cx E.N ⟨zipT args 0, A⟩ { tmps := vs.toArray ++ Array.replicate (fn.ntmps - vs.toArray.size) undef, defers := [] } cx.w := by
    refine ⟨cx, rfl, hA, H, fun n => ?_, ExtN.refl (by rw [hA]; omega), rfl, by simp [hN]; omega⟩
    show Rel cx (lk (zipT args 0) n) _
    rw [zipT_lk, if_pos (Nat.zero_le _), Nat.sub_zero]
    by_cases hlt : n < args.length
    · obtain ⟨v, k1, k2⟩ := hv.get _ _ n args[n] (List.getElem?_eq_getElem hlt)
      have e1 : args.getD n .unk = args[n] := getD_of_lt hlt
      rw [e1]
      have : (vs.toArray ++ Array.replicate (fn.ntmps - vs.toArray.size) undef).getD n undef = v := by
        rw [Array.getD_eq_getD_getElem?, Array.getElem?_append_left (by simp; omega)]
        simp [k1]
      rw [this]; exact k2
    · have e1 : args.getD n .unk = .unk := by rw [List.getD, List.getElem?_eq_none (by omega)]; rfl
      rw [e1]; exact rel_unk
  have hn : E.n0 = cx.A.length := by rw [hA]; exact hn0.symm
  refine wpIn_mono (awpR_sound ok hback hent cx hG c hok _ _ _ _ _ h hs) fun e a w hp => ?_
  rcases hp with ⟨σ, hq, c1, rfl, hA1, H1, hT1, hE1, hd1, _⟩ | ⟨D, c1, hm, a0, rfl, σ, hq, c2, rfl, hA2, H2, hT2, hE2, hd2, _⟩
  · have fin := fun h => fin_ok (K := K) (fn := fn) ok hG hn hA1 H1 hT1 hE1 h
    cases e with
    | normal => show LeavesInM _ _ _ _ _ _ a.defers _ _; rw [hd1]; exact fin hq
    | ret => show LeavesInM _ _ _ _ _ _ a.defers _ _; rw [hd1]; exact fin hq
    | _ => exact hq.elim
  · have x2 : c2.X D := by rw [hE2.X]; exact hm.XD
    have d2 : c2.w.heap[D]? = some (.deferred (some [])) := (hE2.far D hm.XD).trans hm.dfr
    have xs : ∀ b, cx.X b → c2.X b := fun b hb => by rw [hE2.X]; exact hm.X b hb
    have t : Turn c2 { c2 with X := cx.X, w := c2.w.putObj D (.deferred none) } := by
      refine ⟨rfl, rfl, rfl, fun b hI _ => ⟨⟨fun hx => hI.1 (xs b hx), hI.2⟩, World.putObj_heap_other (fun e => hI.1 (e ▸ x2))⟩, fun t b hl hb => ⟨fun hx => H2.far t b hl hb (xs b hx), World.putObj_heap_other (fun e => H2.far t b hl hb (e ▸ x2))⟩, fun b hb => ?_⟩
      have := H2.old b (xs b hb)
      show b < (c2.w.putObj D (.deferred none)).heap.size
      simpa using this
    have hE3 : ExtN E.n0 cx { c2 with X := cx.X, w := c2.w.putObj D (.deferred none) } := by
      refine ⟨le_trans hm.le (le_trans hE2.le t.le hE2.le.len) (Nat.le_refl _), rfl, hE2.G.trans hm.G, fun b hb => ?_, hm.st.trans (hE2.st.trans (same_put _ _ _))⟩
      exact (World.putObj_heap_other (show b ≠ D from fun e => hm.notX (by rw [← e]; exact hb))).trans ((hE2.far b (hm.X b hb)).trans (hm.far b hb))
    have fin := fun h => fin_ok (K := K) (fn := fn) ok hG hn (c1 := { c2 with X := cx.X, w := c2.w.putObj D (.deferred none) }) hA2 (t.hr H2) (hT2.le t.le) hE3 h
    cases e with
    | normal => exact ⟨by simp, .inl ⟨D, _, rfl, run_takeDeferred d2, fin hq⟩⟩
    | ret => exact ⟨by simp, .inl ⟨D, _, rfl, run_takeDeferred d2, fin hq⟩⟩
    | _ => exact hq.elim
end Go.Ab
