/-
  Operations that only look (7): slices of slices, functions, interfaces, building of values.
-/
import Derived.Test.YtidhgdipnfhoeaaDoorAb7
namespace Go.Ab
open Go
def aOpt : Option AV → Int → Option Int
  | none, d => some d
  | some v, _ => aInt v
def aSliceI (D : Tab) (A : List AO) (t : TypeId) (lo hi : Int) : AV → AR
  | .fz (.list e) xs => match telem D t with
    | some el => gate (Nat.beq (tsz D el) e.size && Nat.blt 0 e.size) (some (0 ≤ lo ∧ lo ≤ hi ∧ hi ≤ (List.length xs : Int)), .fz (.list e) ((List.drop lo.toNat xs).take (hi.toNat - lo.toNat)))
    | none => no
  | .ref tok off len => match A[tok]?, telem D t with
    | some (.row e _), some el => gate (Nat.beq (tsz D el) e.size && Nat.blt 0 e.size) (some (0 ≤ lo ∧ lo ≤ hi ∧ hi ≤ (len : Int)), .ref tok (off + lo.toNat) (hi.toNat - lo.toNat))
    | _, _ => no
  | .fz .str s => gate (tstr D t) (some (0 ≤ lo ∧ lo ≤ hi ∧ hi ≤ (ByteArray.size s : Int)), .fz .str (ByteArray.extract s lo.toNat hi.toNat))
  | _ => no
def aLenN : AV → Int
  | .fz (.list _) xs => (List.length xs : Nat)
  | .ref _ _ len => (len : Nat)
  | .fz .str s => (ByteArray.size s : Nat)
  | _ => 0
def aSlice (D : Tab) (A : List AO) (t : TypeId) (x : AV) (lo hi : Option AV) : AR :=
  match aOpt lo 0, aOpt hi (aLenN x) with
  | some l, some h => aSliceI D A t l h x
  | _, _ => no
def optVal (c : Cx) : Option AV → Option Value → Prop
  | none, none => True
  | some a, some v => Rel c a v
  | _, _ => False
theorem run_bound {P : Program} {w : World} {k : IntKind} {i : Int} {y : Nat} {code : BoundsCode} (h0 : 0 ≤ i) (h : i ≤ (y : Int)) : (Instr.sliceBound (.int k i) y code).run P w = .ok i.toNat w := by
  simp [Instr.sliceBound, asIntOf, h0, h]
theorem run_bounds {P : Program} {c : Cx} {isS : Bool} {len cap : Nat} {lo hi : Option AV} {vl vh : Option Value} {l h : Int} (hl : optVal c lo vl) (hh : optVal c hi vh) (el : aOpt lo 0 = some l) (eh : aOpt hi (len : Int) = some h)
    (h0 : 0 ≤ l) (h1 : l ≤ h) (h2 : h ≤ (cap : Int)) (w : World) : (Instr.sliceBounds isS len cap vl vh none).run P w = .ok (l.toNat, h.toNat, cap) w := by
  have e1 : ∀ code, (match vh with | some v => Instr.sliceBound v cap code | none => pure len : Sem Nat).run P w = .ok h.toNat w := by
    intro code
    cases hi with
    | none =>
      cases vh with
      | none => simp [aOpt] at eh; subst eh; simp
      | some v => exact hh.elim
    | some a =>
      cases vh with
      | none => exact hh.elim
      | some v =>
        obtain ⟨k, rfl⟩ := aInt_of eh hh
        exact run_bound (by omega) h2
  have e2 : ∀ code, (match vl with | some v => Instr.sliceBound v h.toNat code | none => pure 0 : Sem Nat).run P w = .ok l.toNat w := by
    intro code
    cases lo with
    | none =>
      cases vl with
      | none => simp [aOpt] at el; subst el; simp
      | some v => exact hl.elim
    | some a =>
      cases vl with
      | none => exact hl.elim
      | some v =>
        obtain ⟨k, rfl⟩ := aInt_of el hl
        exact run_bound h0 (by omega)
  unfold Instr.sliceBounds
  have e1' := e1 (if isS = true then BoundsCode.sliceAcap else .sliceAlen)
  have e2' := e2 .sliceB
  cases vh <;> cases vl <;> simp_all
theorem aSlice_sound {P : Program} {D : Tab} (hD : TabOk P D) {c : Cx} {t : TypeId} {x : AV} {v : Value} {lo hi : Option AV} {vl vh : Option Value} (hx : Rel c x v) (hl : optVal c lo vl) (hh : optVal c hi vh) (h : Hold (aSlice D c.A t x lo hi).1) :
    ∃ r, (Instr.sliceAt t v vl vh none).run P c.w = .ok r c.w ∧ Rel c (aSlice D c.A t x lo hi).2 r := by
  unfold aSlice at *
  cases el : aOpt lo 0 with
  | none => rw [el] at h; exact False.elim h
  | some l =>
    cases eh : aOpt hi (aLenN x) with
    | none => rw [el, eh] at h; exact False.elim h
    | some u =>
      rw [el, eh] at h
      simp only at h ⊢
      cases x <;> try exact False.elim h
      case fz ty xs =>
        cases ty <;> try exact False.elim h
        case str =>
          unfold aSliceI at *
          simp only at h ⊢
          have hb := (gate_of h).1
          obtain ⟨h2, h3, h4⟩ := (gate_of h).2
          rw [gate_true hb]
          have h1 := of_tstr hD hb
          obtain rfl := rel_str.1 hx
          have hb := run_bounds (P := P) (isS := false) (cap := ByteArray.size xs) hl hh el eh h2 h3 h4 c.w
          refine ⟨.string (ByteArray.extract xs l.toNat u.toNat), ?_, rel_str.2 rfl⟩
          simp only [Instr.sliceAt, Instr.slice, Sem.run_bind, run_underlying' h1, Result.andThen_ok]
          simp [hb]
        case list e =>
          unfold aSliceI at *
          simp only at h ⊢
          cases hel : telem D t with
          | none => rw [hel] at h; exact False.elim h
          | some elt =>
            rw [hel] at h
            have hb := (gate_of h).1
            obtain ⟨h3, h4, h5⟩ := (gate_of h).2
            simp only
            rw [gate_true hb]
            simp only [Bool.and_eq_true] at hb
            have h1 := beq_eq hb.1
            have h2 := blt_of hb.2
            obtain ⟨p, cap, rfl, hf⟩ := rel_list hx
            unfold FzC at hf
            obtain ⟨p', cap', hv, hle, hall⟩ := hf
            simp at hv
            obtain ⟨rfl, rfl⟩ := hv
            have hb := run_bounds (P := P) (isS := true) (cap := cap) hl hh el eh h3 h4 (by omega) c.w
            have hlen : ((List.drop l.toNat xs).take (u.toNat - l.toNat)).length = u.toNat - l.toNat := by
              rw [List.length_take, List.length_drop]; omega
            refine ⟨.slice (if cap = l.toNat then p else p.map (·.add (l.toNat * e.size))) (u.toNat - l.toNat) (cap - l.toNat), ?_, ?_⟩
            · simp only [Instr.sliceAt, Instr.slice, Sem.run_bind, run_underlying' (of_telem hD hel), Result.andThen_ok, hb, run_sizeOf hD h1 h2, Sem.run_pure]
            · unfold Rel
              refine ⟨[.slice (if cap = l.toNat then p else p.map (·.add (l.toNat * e.size))) (u.toNat - l.toNat) (cap - l.toNat)], ?_, rfl⟩
              unfold FzC
              refine ⟨_, cap - l.toNat, by rw [hlen], by rw [hlen]; omega, fun i hi => ?_⟩
              rw [hlen] at hi
              obtain ⟨b, o, cs, rfl, hI, hlt, hfz, hc⟩ := hall (l.toNat + i) (by omega)
              refine ⟨b, o + l.toNat * e.size, cs, ?_, hI, hlt, ?_, fun j hj => ?_⟩
              · rw [if_neg (by omega)]; simp [plain_add]
              · have : ((List.drop l.toNat xs).take (u.toNat - l.toNat))[i] = xs[l.toNat + i]'(by omega) := by simp
                rw [this]; exact hfz
              · have := hc j hj
                rw [show o + l.toNat * e.size + i * e.size + j = o + (l.toNat + i) * e.size + j by rw [Nat.add_mul]; omega]
                exact this
      case ref tok off len =>
        unfold aSliceI at *
        simp only at h ⊢
        unfold Rel at hx
        cases ht : c.A[tok]? with
        | none => rw [ht] at h; exact False.elim h
        | some o =>
          rw [ht] at h hx
          cases o <;> try exact False.elim h
          rename_i e xs
          simp only at h hx ⊢
          cases hel : telem D t with
          | none => rw [hel] at h; exact False.elim h
          | some elt =>
            rw [hel] at h
            have hb := (gate_of h).1
            obtain ⟨h3, h4, h5⟩ := (gate_of h).2
            simp only
            rw [gate_true hb]
            simp only [Bool.and_eq_true] at hb
            have h1 := beq_eq hb.1
            have h2 := blt_of hb.2
            have fin : ∀ (p : Option Addr) (cap : Nat), len ≤ cap → (Instr.sliceAt t (.slice p len cap) vl vh none).run P c.w = .ok (.slice (if cap = l.toNat then p else p.map (·.add (l.toNat * e.size))) (u.toNat - l.toNat) (cap - l.toNat)) c.w := by
              intro p cap hle
              have hb := run_bounds (P := P) (isS := true) (cap := cap) hl hh el eh h3 h4 (by omega) c.w
              simp only [Instr.sliceAt, Instr.slice, Sem.run_bind, run_underlying' (of_telem hD hel), Result.andThen_ok, hb, run_sizeOf hD h1 h2, Sem.run_pure]
            rcases hx with ⟨b, cap, cs, et, a, hr, rfl, ha, hle, hh', hsz⟩ | ⟨hr, rfl, rfl, rfl⟩
            · refine ⟨_, fin _ _ hle, ?_⟩
              unfold Rel
              rw [ht]
              refine .inl ⟨b, cap - l.toNat, cs, et, (if cap = l.toNat then a else a.add (l.toNat * e.size)), hr, by split <;> rfl, fun hc => ?_, by omega, hh', ?_⟩
              · rw [if_neg (by omega), ha (by omega), plain_add, Nat.add_mul]
              · rw [show off + l.toNat + (cap - l.toNat) = off + cap by omega]; exact hsz
            · refine ⟨_, fin _ _ (Nat.le_refl _), ?_⟩
              unfold Rel
              rw [ht]
              have : l.toNat = 0 := by omega
              exact .inr ⟨hr, by omega, by omega, by rw [this]; simp; omega⟩
/-! ### functions, interfaces -/
def liveA (A : List AO) : AV → Bool
  | .ptr tok _ => match A[tok]? with | some (.box _) => true | _ => false
  | .elt tok _ _ => match A[tok]? with | some (.row _ _) => true | _ => false
  | .fptr _ _ | .glob _ | .fn _ _ => true
  | _ => false
def aNilCheck (A : List AO) (x : AV) : AR := gate (liveA A x) (none, x)
theorem aNilCheck_sound {P : Program} {c : Cx} {x : AV} {v : Value} (hx : Rel c x v) (h : Hold (aNilCheck c.A x).1) :
    ∃ r, (execOp (fun _ => v) { dst := none, op := .nilCheck (.tmp 0), type := 0, pos := "", after := #[], guard := none }).run P c.w = .ok (.value r) c.w ∧ Rel c (aNilCheck c.A x).2 r := by
  unfold aNilCheck at *
  have hb := (gate_of h).1
  rw [gate_true hb]
  refine ⟨v, ?_, hx⟩
  have : (∃ a, v = .pointer (some a)) ∨ (∃ f cs, v = .func (.func f) #[] cs) := by
    replace h : liveA c.A x = true := hb
    cases x <;> try (cases h; done)
    case fptr u y => unfold Rel at hx; obtain ⟨b, o, cs, rfl, _⟩ := hx; exact .inl ⟨_, rfl⟩
    case ptr tok off =>
      unfold Rel at hx; unfold liveA at h; simp only at h
      cases ht : c.A[tok]? with
      | none => rw [ht] at h; cases h
      | some o =>
        rw [ht] at h hx
        cases o <;> try (cases h; done)
        obtain ⟨b, _, rfl⟩ := hx; exact .inl ⟨_, rfl⟩
    case elt tok i off =>
      unfold Rel at hx; unfold liveA at h; simp only at h
      cases ht : c.A[tok]? with
      | none => rw [ht] at h; cases h
      | some o =>
        rw [ht] at h hx
        cases o <;> try (cases h; done)
        obtain ⟨b, _, rfl⟩ := hx; exact .inl ⟨_, rfl⟩
    case glob g => unfold Rel at hx; subst hx; exact .inl ⟨_, rfl⟩
    case fn f l => unfold Rel at hx; obtain ⟨vs, rfl, _⟩ := hx; exact .inr ⟨_, _, rfl⟩
  rcases this with ⟨a, rfl⟩ | ⟨f, cs, rfl⟩ <;> simp [execOp]
def aMkI (D : Tab) (t : TypeId) (x : AV) : AR := gate (tconc D t) (none, .ifc t x)
theorem aMkI_sound {P : Program} {D : Tab} (hD : TabOk P D) {c : Cx} {t : TypeId} {x : AV} {v : Value} (hx : Rel c x v) (h : Hold (aMkI D t x).1) : ∃ r, (Instr.makeInterface t v).run P c.w = .ok r c.w ∧ Rel c (aMkI D t x).2 r := by
  unfold aMkI at *
  have hb := (gate_of h).1
  rw [gate_true hb]
  exact ⟨_, run_makeInterface c.w t v (of_tconc hD hb), by unfold Rel; exact ⟨v, rfl, hx⟩⟩
def aAssert (D : Tab) (asserted : TypeId) (ok : Bool) : AV → AR
  | .ifc t v => gate (Nat.beq t asserted && tconc D asserted) (none, match ok with | true => .tup [v, .fz .bool true] | false => v)
  | _ => no
theorem aAssert_sound {P : Program} {D : Tab} (hD : TabOk P D) {c : Cx} {t u : TypeId} {ok : Bool} {x : AV} {v : Value} (hx : Rel c x v) (h : Hold (aAssert D u ok x).1) :
    ∃ r, (Instr.typeAssert v t u ok).run P c.w = .ok r c.w ∧ Rel c (aAssert D u ok x).2 r := by
  cases x <;> try exact False.elim h
  rename_i t' a
  unfold aAssert at *
  simp only at h ⊢
  have hb := (gate_of h).1
  rw [gate_true hb]
  simp only [Bool.and_eq_true] at hb
  have h0 := beq_eq hb.1
  subst h0
  have h2 := of_tconc hD hb.2
  unfold Rel at hx
  obtain ⟨w, rfl, hr⟩ := hx
  unfold Program.concrete at h2
  cases hd : P.underlying t' with
  | none => simp [hd] at h2
  | some d =>
    have hrun : (Instr.typeAssert (.iface t' w) t t' ok).run P c.w = .ok (if ok = true then .tuple #[w, .bool true] else w) c.w := by
      cases d <;> first | (simp [hd] at h2; done) | (simp [Instr.typeAssert, run_underlying' hd])
    refine ⟨_, hrun, ?_⟩
    cases ok with
    | false => exact hr
    | true =>
      simp only [if_true]
      unfold Rel
      refine ⟨[w, .bool true], rfl, ?_⟩
      unfold RelL
      refine ⟨w, [.bool true], rfl, hr, ?_⟩
      unfold RelL
      exact ⟨.bool true, [], rfl, rel_bool.2 rfl, by unfold RelL; rfl⟩
def aMM (mx : Bool) (x y : AV) : AR := match x with
  | .fz (.int k) a => match aInt y with
    | some b => match mx with
      | true => (none, .fz (.int k) (max a b))
      | false => (none, .fz (.int k) (min a b))
    | none => no
  | _ => no
def aFold (mx : Bool) : AV → List AV → AR
  | x, [] => (none, x)
  | x, y :: r => (andC (aMM mx x y).1 (aFold mx (aMM mx x y).2 r).1, (aFold mx (aMM mx x y).2 r).2)
theorem max_if (a b : Int) : (if a < b then b else a) = max a b := by split <;> omega
theorem min_if (a b : Int) : (if b < a then b else a) = min a b := by split <;> omega
theorem aMM_sound {P : Program} {c : Cx} {mx : Bool} {x y : AV} {v w : Value} (hx : Rel c x v) (hy : Rel c y w) (h : Hold (aMM mx x y).1) :
    ∃ r, ((if mx = true then Builtin.max2 v w else Builtin.min2 v w).run P c.w = .ok r c.w) ∧ Rel c (aMM mx x y).2 r := by
  unfold aMM at *
  cases x <;> try exact False.elim h
  rename_i u a
  cases u <;> try exact False.elim h
  rename_i k
  simp only at h ⊢
  cases hn : aInt y with
  | none => rw [hn] at h; exact False.elim h
  | some b =>
    obtain ⟨k', rfl⟩ := aInt_of hn hy
    obtain rfl := rel_int.1 hx
    simp only
    cases mx with
    | true => exact ⟨.int k (if a < b then b else a), by simp [Builtin.max2], rel_int.2 (by rw [max_if])⟩
    | false => exact ⟨.int k (if b < a then b else a), by simp [Builtin.min2], rel_int.2 (by rw [min_if])⟩
theorem aFold_sound {P : Program} {c : Cx} {mx : Bool} : ∀ (l : List AV) (vs : List Value) (x : AV) (v : Value), Rel c x v → RelL c l vs → Hold (aFold mx x l).1 →
    ∃ r, ((vs.foldlM (if mx = true then Builtin.max2 else Builtin.min2) v).run P c.w = .ok r c.w) ∧ Rel c (aFold mx x l).2 r
  | [], vs, x, v, hx, hl, _ => by
    unfold RelL at hl; subst hl
    exact ⟨v, by simp, hx⟩
  | y :: l, vs, x, v, hx, hl, h => by
    unfold RelL at hl
    obtain ⟨w, r, rfl, h1, h2⟩ := hl
    have hc := andC_of h
    obtain ⟨r1, k1, k2⟩ := aMM_sound (P := P) hx h1 hc.1
    obtain ⟨r2, k3, k4⟩ := aFold_sound l r _ r1 k2 h2 hc.2
    refine ⟨r2, ?_, k4⟩
    simp only [List.foldlM_cons, Sem.run_bind]
    have e : (if mx = true then Builtin.max2 else Builtin.min2) v w = (if mx = true then Builtin.max2 v w else Builtin.min2 v w) := by cases mx <;> rfl
    rw [e, k1]; exact k3
end Go.Ab
