/-
  Cells of lists; data out of abstract values; what is frozen.
-/
import Derived.Test.YtidhgdipnfhoeaaDoorAc1
namespace Go.Ab
open Go
/-! ### cells of a list of data -/
def Cells (I : Nat → Prop) (w : World) (e : Ty) (xs : List e.den) (L : List Value) : Prop :=
  L.length = List.length xs * e.size ∧ ∀ i (h : i < List.length xs), FzC I w e (xs[i]) ((L.drop (i * e.size)).take e.size)
theorem Cells.nil {I : Nat → Prop} {w : World} {e : Ty} : Cells I w e [] [] := ⟨by simp, fun i h => absurd h (by simp)⟩
theorem Cells.append {I : Nat → Prop} {w : World} {e : Ty} {xs ys : List e.den} {L M : List Value} (h : Cells I w e xs L) (h' : Cells I w e ys M) : Cells I w e (xs ++ ys) (L ++ M) := by
  refine ⟨by rw [List.length_append, h.1, h'.1, List.length_append, Nat.add_mul], fun i hi => ?_⟩
  by_cases hlt : i < List.length xs
  · have hle : i * e.size + e.size ≤ L.length := by rw [h.1, ← Nat.succ_mul]; exact Nat.mul_le_mul_right _ hlt
    rw [List.getElem_append_left hlt, List.drop_append_of_le_length (by omega), List.take_append_of_le_length (by simp; omega)]
    exact h.2 i hlt
  · have hge : List.length xs ≤ i := by omega
    rw [List.getElem_append_right hge]
    have hL : L.length ≤ i * e.size := by rw [h.1]; exact Nat.mul_le_mul_right _ hge
    rw [List.drop_append, List.drop_eq_nil_of_le hL, List.nil_append]
    have := h'.2 (i - List.length xs) (by simp at hi; omega)
    rw [h.1, ← Nat.sub_mul]; exact this
theorem Cells.one {I : Nat → Prop} {w : World} {e : Ty} {x : e.den} {L : List Value} (h : FzC I w e x L) : Cells I w e [x] L := by
  refine ⟨by simp [h.len], fun i hi => ?_⟩
  have : i = 0 := by simp at hi; omega
  subst this
  simp only [Nat.zero_mul, List.drop_zero, List.getElem_cons_zero]
  rw [← h.len, List.take_length]; exact h
theorem Cells.take {I : Nat → Prop} {w : World} {e : Ty} {xs : List e.den} {L : List Value} (h : Cells I w e xs L) (n : Nat) (hn : n ≤ List.length xs) : Cells I w e (xs.take n) (L.take (n * e.size)) := by
  have hle : n * e.size ≤ L.length := by rw [h.1]; exact Nat.mul_le_mul_right _ hn
  refine ⟨by rw [List.length_take, List.length_take, Nat.min_eq_left hle, Nat.min_eq_left hn], fun i hi => ?_⟩
  have hi' : i < n := by simp at hi; omega
  have h1 : i * e.size + e.size ≤ n * e.size := by rw [← Nat.succ_mul]; exact Nat.mul_le_mul_right _ hi'
  rw [List.getElem_take, List.drop_take, List.take_take, Nat.min_eq_left (by omega)]
  exact h.2 i (by omega)
theorem Cells.drop {I : Nat → Prop} {w : World} {e : Ty} {xs : List e.den} {L : List Value} (h : Cells I w e xs L) (n : Nat) : Cells I w e (xs.drop n) (L.drop (n * e.size)) := by
  refine ⟨by rw [List.length_drop, h.1, List.length_drop, Nat.sub_mul], fun i hi => ?_⟩
  rw [List.length_drop] at hi
  rw [List.getElem_drop, List.drop_drop, ← Nat.add_mul]
  exact h.2 (n + i) (by omega)
theorem Cells.seg {I : Nat → Prop} {w : World} {e : Ty} {xs : List e.den} {L : List Value} (h : Cells I w e xs L) (o n : Nat) (hn : o + n ≤ List.length xs) : Cells I w e ((xs.drop o).take n) ((L.drop (o * e.size)).take (n * e.size)) :=
  (h.drop o).take n (by simp; omega)
theorem Cells.mono {I I' : Nat → Prop} {w w' : World} (hm : ∀ b, I b → b < w.heap.size → I' b ∧ w'.heap[b]? = w.heap[b]?) {e : Ty} {xs : List e.den} {L : List Value} (h : Cells I w e xs L) : Cells I' w' e xs L :=
  ⟨h.1, fun i hi => (h.2 i hi).mono hm⟩
theorem Cells.ext {c c' : Cx} (H : Ext c c') {e : Ty} {xs : List e.den} {L : List Value} (h : Cells c.I c.w e xs L) : Cells c'.I c'.w e xs L := h.mono H.le.I
theorem Cells.ocell {I : Nat → Prop} {w : World} {e : Ty} : ∀ {xs : List e.den} {L : List Value}, Cells I w e xs L → ∀ v ∈ L, ocell v = true
  | [], L, h, v, hv => by
    have : L = [] := List.eq_nil_of_length_eq_zero (by simpa using h.1)
    subst this; cases hv
  | x :: xs, L, h, v, hv => by
    have h0 := h.2 0 (by simp)
    simp only [Nat.zero_mul, List.drop_zero] at h0
    have h1 := h.drop 1
    simp only [List.drop_succ_cons, List.drop_zero, Nat.one_mul] at h1
    rw [← List.take_append_drop e.size L] at hv
    rcases List.mem_append.1 hv with hv | hv
    · exact h0.cells1 _ _ _ v hv
    · exact Cells.ocell h1 v hv
theorem Cells.set {I : Nat → Prop} {w : World} {e : Ty} {xs : List e.den} {L : List Value} (h : Cells I w e xs L) {i : Nat} (hi : i < List.length xs) {y : e.den} {M : List Value} (hy : FzC I w e y M) :
    Cells I w e (xs.set i y) (L.take (i * e.size) ++ M ++ L.drop (i * e.size + e.size)) := by
  have e1 : xs.set i y = xs.take i ++ [y] ++ xs.drop (i + 1) := by
    rw [List.set_eq_take_append_cons_drop, if_pos hi]; simp
  rw [e1]
  have := ((h.take i (by omega)).append (Cells.one hy)).append (h.drop (i + 1))
  rwa [Nat.succ_mul] at this
/-- a row's block -/
theorem row_iff {c : Cx} {r : Option Nat} {e : Ty} {xs : List e.den} (h : ObjOk c r (.row e xs)) : (r = none ∧ xs = []) ∨ ∃ b cs et L R, r = some b ∧ c.w.heap[b]? = some (.cells cs et (0, 0)) ∧ cs.toList = L ++ R ∧ Cells c.I c.w e xs L := by
  rcases h with ⟨h1, h2⟩ | ⟨b, cs, et, h1, h2, h3⟩
  · exact .inl ⟨h1, List.eq_nil_of_length_eq_zero h2⟩
  · refine .inr ⟨b, cs, et, cs.toList.take (List.length xs * e.size), cs.toList.drop (List.length xs * e.size), h1, h2, by simp, ?_⟩
    have key : ∀ i (hi : i < List.length xs), ∃ ds, FzC c.I c.w e xs[i] ds ∧ (cs.toList.drop (i * e.size)).take e.size = ds := by
      intro i hi
      obtain ⟨ds, k1, k2⟩ := h3 i hi
      refine ⟨ds, k1, ?_⟩
      have hl := k1.len
      apply List.ext_getElem?
      intro j
      rw [List.getElem?_take, List.getElem?_drop]
      by_cases hj : j < e.size
      · rw [if_pos hj]
        have := k2 j (by omega)
        rw [List.getElem?_eq_getElem (l := ds) (by omega), ← this]; simp
      · rw [if_neg hj, List.getElem?_eq_none (by omega)]
    have hlen : List.length xs * e.size ≤ cs.toList.length := by
      rcases Nat.eq_zero_or_pos (List.length xs) with h0 | h0
      · rw [h0]; omega
      · obtain ⟨ds, k1, k2⟩ := key (List.length xs - 1) (by omega)
        have := congrArg List.length k2
        rw [k1.len, List.length_take, List.length_drop] at this
        by_cases hz : e.size = 0
        · rw [hz]; omega
        · have h5 : List.length xs * e.size = (List.length xs - 1) * e.size + e.size := by
            rw [← Nat.succ_mul]; congr 1; omega
          omega
    refine ⟨by rw [List.length_take]; omega, fun i hi => ?_⟩
    obtain ⟨ds, k1, k2⟩ := key i hi
    have h1 : i * e.size + e.size ≤ List.length xs * e.size := by rw [← Nat.succ_mul]; exact Nat.mul_le_mul_right _ hi
    rw [List.drop_take, List.take_take, Nat.min_eq_left (by omega), k2]
    exact k1
theorem row_mk {c : Cx} {b : Nat} {cs : Array Value} {et : TypeId} {e : Ty} {xs : List e.den} {L R : List Value} (h2 : c.w.heap[b]? = some (.cells cs et (0, 0))) (h3 : cs.toList = L ++ R) (h4 : Cells c.I c.w e xs L) : ObjOk c (some b) (.row e xs) := by
  refine .inr ⟨b, cs, et, rfl, h2, fun i hi => ?_⟩
  have k := h4.2 i hi
  refine ⟨_, k, fun j hj => ?_⟩
  have hl := k.len
  have hj' : j < e.size := by omega
  have h1 : i * e.size + e.size ≤ List.length xs * e.size := by rw [← Nat.succ_mul]; exact Nat.mul_le_mul_right _ hi
  have h5 := h4.1
  rw [← Array.getElem?_toList, h3, List.getElem?_append_left (by omega)]
  rw [← List.getElem?_eq_getElem hj, List.getElem?_take, if_pos hj', List.getElem?_drop]
/-- an immutable list's cells -/
theorem list_cells {I : Nat → Prop} {w : World} {e : Ty} {xs : List e.den} {v : Value} (h : FzC I w (.list e) xs [v]) (hs : 0 < e.size) : ∃ p cap L, v = .slice p (List.length xs) cap ∧ List.length xs ≤ cap ∧ Cells I w e xs L ∧ (0 < List.length xs → ∃ b off, p = some ⟨b, off, none⟩ ∧ ∀ j (hj : j < L.length), w.cell? ⟨b, off + j, none⟩ = some L[j]) := by
  unfold FzC at h
  obtain ⟨p, cap, hv, hle, hall⟩ := h
  simp at hv
  rcases Nat.eq_zero_or_pos (List.length xs) with h0 | h0
  · have : xs = [] := List.eq_nil_of_length_eq_zero h0
    subst this
    exact ⟨p, cap, [], hv, hle, Cells.nil, fun h => absurd h (by simp)⟩
  · obtain ⟨b, off, _, hp, _⟩ := hall 0 h0
    have key : ∀ m (hm : m ≤ List.length xs), ∃ L, Cells I w e (xs.take m) L ∧ ∀ j (hj : j < L.length), w.cell? ⟨b, off + j, none⟩ = some L[j] := by
      intro m
      induction m with
      | zero => intro _; exact ⟨[], by simpa using Cells.nil, fun j hj => absurd hj (by simp)⟩
      | succ m ih =>
        intro hm
        obtain ⟨L, h1, h2⟩ := ih (by omega)
        obtain ⟨b', off', cs, hp', _, _, hf, hc⟩ := hall m (by omega)
        rw [hp] at hp'; cases hp'
        have hL : L.length = m * e.size := by rw [h1.1, List.length_take, Nat.min_eq_left (by omega)]
        refine ⟨L ++ cs, ?_, fun j hj => ?_⟩
        · rw [List.take_succ_eq_append_getElem (by omega)]
          exact h1.append (Cells.one hf)
        · by_cases hlt : j < L.length
          · rw [List.getElem_append_left hlt]; exact h2 j hlt
          · rw [List.getElem_append_right (by omega)]
            have := hc (j - L.length) (by simp at hj; omega)
            rw [← this]; congr 2; omega
    obtain ⟨L, h1, h2⟩ := key (List.length xs) (Nat.le_refl _)
    rw [List.take_length] at h1
    exact ⟨p, cap, L, hv, hle, h1, fun _ => ⟨b, off, hp, h2⟩⟩
/-! ### data out of cells -/
def Ty.ofN {α : Type} (f : List AV → Option α) (s : Nat) : Nat → List AV → Option (List α)
  | 0, _ => some []
  | n + 1, l => match f (l.take s), Ty.ofN f s n (l.drop s) with
    | some x, some xs => some (x :: xs)
    | _, _ => none
def ofInt (k : IntKind) (l : List AV) : Option Int := match l with
  | [.fz (.int k') n] => match kEq k k' with
    | true => some n
    | false => none
  | _ => none
def ofBool (l : List AV) : Option Bool := match l with
  | [.fz .bool b] => some b
  | _ => none
def ofStr (l : List AV) : Option ByteArray := match l with
  | [.fz .str s] => some s
  | _ => none
def fkEq : FloatKind → FloatKind → Bool
  | .f32, .f32 => true
  | .f64, .f64 => true
  | _, _ => false
theorem fkEq_of {a b : FloatKind} (h : fkEq a b = true) : a = b := by cases a <;> cases b <;> first | rfl | cases h
def ofFlt (k : FloatKind) (l : List AV) : Option Nat := match l with
  | [.fz (.flt k') n] => match fkEq k k' with
    | true => some n
    | false => none
  | _ => none
def ofRaw (l : List AV) : Option Value := match l with
  | [.fz .raw v] => some v
  | [.glob g] => some (.pointer (some ⟨g, 0, none⟩))
  | _ => none
def ofList (e : Ty) (l : List AV) : Option (List e.den) := match l with
  | [.fz (.list e') xs] => if h : e' = e then some (h ▸ xs) else none
  | [.nilSl] => some []
  | _ => none
def Ty.ofC : (t : Ty) → List AV → Option t.den
  | .int k, l => ofInt k l
  | .bool, l => ofBool l
  | .str, l => ofStr l
  | .flt k, l => ofFlt k l
  | .raw, l => ofRaw l
  | .list e, l => ofList e l
  | .one a, l => Ty.ofC a l
  | .pair a b, l => match Ty.ofC a (l.take a.size), Ty.ofC b (l.drop a.size) with
    | some x, some y => some (x, y)
    | _, _ => none
  | .arr n e, l => match Nat.beq l.length (n * e.size) with
    | true => Ty.ofN (fun l => Ty.ofC e l) e.size n l
    | false => none
def Ty.ofV (t : Ty) (v : AV) : Option t.den := match v with
  | .fz u x => if h : u = t then some (h ▸ x) else t.ofC (acells (.fz u x))
  | v => t.ofC (acells v)
theorem RelL.one {c : Cx} {a : AV} {vs : List Value} (h : RelL c [a] vs) : ∃ v, vs = [v] ∧ Rel c a v := by
  unfold RelL at h
  obtain ⟨v, r, rfl, h1, h2⟩ := h
  unfold RelL at h2; subst h2
  exact ⟨v, rfl, h1⟩
theorem RelL.split {c : Cx} {l : List AV} {vs : List Value} (h : RelL c l vs) (n : Nat) : RelL c (l.take n) (vs.take n) ∧ RelL c (l.drop n) (vs.drop n) := by
  refine ⟨RelL.of_get _ _ (by simp [h.length]) (fun i a v h1 h2 => ?_), RelL.of_get _ _ (by simp [h.length]) (fun i a v h1 h2 => ?_)⟩
  · rw [List.getElem?_take] at h1 h2
    split at h1
    · rename_i hi; rw [if_pos hi] at h2
      obtain ⟨v', e1, e2⟩ := h.get _ _ _ _ h1
      rw [e1] at h2; cases h2; exact e2
    · cases h1
  · rw [List.getElem?_drop] at h1 h2
    obtain ⟨v', e1, e2⟩ := h.get _ _ _ _ h1
    rw [e1] at h2; cases h2; exact e2
theorem fz_one {c : Cx} {t : Ty} {x : t.den} {v : Value} (ha : t.isAgg = false) (h : Rel c (.fz t x) v) : FzC c.I c.w t x [v] := by
  unfold Rel at h
  obtain ⟨cs, h1, rfl⟩ := h
  have hl := h1.len
  rw [isAgg_size ha] at hl
  match cs, hl with
  | [v], _ => unfold valOf; rw [if_neg (by simp [ha])]; exact h1
theorem one_cell {c : Cx} {a : AV} {vs : List Value} {Q : List Value → Prop} (h : RelL c [a] vs) (hq : ∀ v, Rel c a v → Q [v]) : Q vs := by
  obtain ⟨v, rfl, h1⟩ := h.one; exact hq v h1
theorem ofN_sound {c : Cx} {e : Ty} {f : List AV → Option e.den} (hf : ∀ l vs x, f l = some x → RelL c l vs → FzC c.I c.w e x vs) : ∀ (n : Nat) (l : List AV) (vs : List Value) (x : List e.den), Ty.ofN f e.size n l = some x → RelL c l vs → l.length = n * e.size →
    List.length x = n ∧ ∃ css : List (List Value), css.length = n ∧ vs = css.flatten ∧ ∀ i (h : i < List.length x), FzC c.I c.w e (x[i]) (css.getD i [])
  | 0, l, vs, x, h, hr, hl => by
    unfold Ty.ofN at h; cases h
    have hl' : l = [] := List.eq_nil_of_length_eq_zero (by simpa using hl)
    subst hl'; unfold RelL at hr; subst hr
    exact ⟨rfl, [], rfl, rfl, fun i hi => absurd hi (by simp)⟩
  | n + 1, l, vs, x, h, hr, hl => by
    unfold Ty.ofN at h
    have hs := hr.split e.size
    split at h
    · rename_i y ys h1 h2
      cases h
      obtain ⟨k1, css, k2, k3, k4⟩ := ofN_sound hf n _ _ _ h2 hs.2 (by rw [List.length_drop, hl, Nat.succ_mul]; omega)
      refine ⟨by simp [k1], vs.take e.size :: css, by simp [k2], by simp [← k3], fun i hi => ?_⟩
      cases i with
      | zero => exact hf _ _ _ h1 hs.1
      | succ i => exact k4 i (by simpa using hi)
    · cases h
theorem ofC_sound {c : Cx} : ∀ (t : Ty) (l : List AV) (vs : List Value) (x : t.den), t.ofC l = some x → RelL c l vs → FzC c.I c.w t x vs := by
  intro t
  induction t with
  | int k =>
    intro l vs x h hr
    have h : ofInt k l = some x := h
    unfold ofInt at h
    split at h
    · split at h
      · rename_i he; cases h; have := kEq_of he; subst this
        exact one_cell hr fun v hv => fz_one rfl hv
      · cases h
    · cases h
  | bool =>
    intro l vs x h hr
    have h : ofBool l = some x := h
    unfold ofBool at h
    split at h
    · cases h; exact one_cell hr fun v hv => fz_one rfl hv
    · cases h
  | str =>
    intro l vs x h hr
    have h : ofStr l = some x := h
    unfold ofStr at h
    split at h
    · cases h; exact one_cell hr fun v hv => fz_one rfl hv
    · cases h
  | flt k =>
    intro l vs x h hr
    have h : ofFlt k l = some x := h
    unfold ofFlt at h
    split at h
    · split at h
      · rename_i he; cases h; have := fkEq_of he; subst this
        exact one_cell hr fun v hv => fz_one rfl hv
      · cases h
    · cases h
  | raw =>
    intro l vs x h hr
    have h : ofRaw l = some x := h
    unfold ofRaw at h
    split at h
    · cases h; exact one_cell hr fun v hv => fz_one rfl hv
    · cases h
      refine one_cell hr fun v hv => ?_
      unfold Rel at hv; subst hv
      exact ⟨rfl, rfl⟩
    · cases h
  | list e _ =>
    intro l vs x h hr
    have h : ofList e l = some x := h
    unfold ofList at h
    split at h
    · split at h
      · rename_i he; subst he; cases h
        exact one_cell hr fun v hv => fz_one rfl hv
      · cases h
    · cases h
      refine one_cell hr fun v hv => ?_
      unfold Rel at hv; subst hv
      exact ⟨none, 0, rfl, Nat.le_refl _, fun i hi => absurd hi (by simp)⟩
    · cases h
  | one a ih => intro l vs x h hr; exact ih l vs x h hr
  | pair a b iha ihb =>
    intro l vs x h hr
    unfold Ty.ofC at h
    have hs := hr.split a.size
    split at h
    · rename_i y z h1 h2
      cases h
      exact ⟨_, _, (List.take_append_drop a.size vs).symm, iha _ _ _ h1 hs.1, ihb _ _ _ h2 hs.2⟩
    · cases h
  | arr n e ih =>
    intro l vs x h hr
    unfold Ty.ofC at h
    split at h
    · rename_i hb
      exact ofN_sound (fun l vs x h hr => ih l vs x h hr) n l vs x h hr (beq_eq hb)
    · cases h
/-- a value's cells as data -/
theorem ofV_sound {c : Cx} {t : Ty} {a : AV} {v : Value} {x : t.den} (hg : goodC c.A (acells a) = true) (h : t.ofV a = some x) (hr : Rel c a v) : FzC c.I c.w t x v.cells.toList := by
  unfold Ty.ofV at h
  split at h
  · split at h
    · rename_i he; subst he; cases h
      unfold Rel at hr
      obtain ⟨cs, h1, rfl⟩ := hr
      rw [valOf_cells h1]; exact h1
    · exact ofC_sound t _ _ _ h (cells_sound hg hr)
  · exact ofC_sound t _ _ _ h (cells_sound hg hr)
/-! ### a list that nobody writes any more -/
theorem ref_freeze {c : Cx} (H : HR c) {tok off len : Nat} {e : Ty} {xs : List e.den} {v : Value} (h0 : c.A[tok]? = some (.row e xs)) (h : Rel c (.ref tok off len) v) (hle : off + len ≤ List.length xs) :
    Rel (c.kill tok) (.fz (.list e) ((List.drop off xs).take len)) v := by
  have E := ext_kill c tok
  have hlive : c.live tok := ⟨_, h0, rfl⟩
  unfold Rel at h
  rw [h0] at h
  simp only at h
  have hl : ((List.drop off xs).take len).length = len := by rw [List.length_take, List.length_drop]; omega
  rcases h with ⟨b, cap, cs, et, a, hr, rfl, ha, hcap, hh, hsz⟩ | ⟨hr, rfl, rfl, rfl⟩
  · have ho := H.obj tok _ h0
    rw [hr] at ho
    rcases row_iff ho with ⟨h1, _⟩ | ⟨b', cs', et', L, R, h1, h2, h3, h4⟩
    · cases h1
    · cases h1
      rw [hh] at h2; cases h2
      have hI : (c.kill tok).I b := ⟨H.far tok b hlive hr, fun t ht he => (kill_live ht).1 (H.inj t tok b (kill_live ht).2 hlive he hr)⟩
      unfold Rel
      refine ⟨[.slice (some a) len cap], ?_, rfl⟩
      unfold FzC
      refine ⟨some a, cap, by rw [hl], by omega, fun i hi => ?_⟩
      have hi' : i < len := by omega
      have := ha (by omega); subst this
      have hf := (h4.ext E).2 (off + i) (by omega)
      refine ⟨b, off * e.size, (L.drop ((off + i) * e.size)).take e.size, rfl, hI, some_lt hh, ?_, fun j hj => ?_⟩
      · rw [List.getElem_take, List.getElem_drop]; exact hf
      · have hj' : j < e.size := by have := hf.len; omega
        have h6 : (off + i) * e.size + e.size ≤ L.length := by rw [h4.1, ← Nat.succ_mul]; exact Nat.mul_le_mul_right _ (by omega)
        show c.w.cell? _ = _
        unfold World.cell?
        simp only [hh]
        rw [← List.getElem?_eq_getElem hj, List.getElem?_take, if_pos hj', List.getElem?_drop, ← Array.getElem?_toList, h3, List.getElem?_append_left (by rw [Nat.add_mul] at h6; omega)]
        simp [Nat.add_mul]
  · unfold Rel
    refine ⟨[.slice none 0 0], ?_, rfl⟩
    unfold FzC
    refine ⟨none, 0, by simp, by simp, fun i hi => absurd hi (by simp)⟩
end Go.Ab
