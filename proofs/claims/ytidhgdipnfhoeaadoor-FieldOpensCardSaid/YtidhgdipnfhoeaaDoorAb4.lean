/-
  Operations that only look (3): addresses, loads, indexes.
-/
import Derived.Test.YtidhgdipnfhoeaaDoorAb3
namespace Go.Ab
open Go
/-- an index within -/
def inR (n : Int) (m : Nat) : Prop := 0 ≤ n ∧ n < (m : Int)
def toPtr : Option (Σ u : Ty, u.den) → AR
  | some ⟨u, y⟩ => (none, .fptr u y)
  | none => no
def aFieldAddr (D : Tab) (A : List AO) (t : TypeId) (f : Nat) (x : AV) : AR :=
  match tfld D t f, x with
  | some (off, ft), .ptr tok o => match A[tok]? with
    | some (.box _) => gate (Nat.blt 0 (tsz D ft)) (none, .ptr tok (o + off))
    | _ => no
  | some (off, ft), .elt tok i o => match A[tok]? with
    | some (.row _ _) => gate (Nat.blt 0 (tsz D ft)) (none, .elt tok i (o + off))
    | _ => no
  | some (off, ft), .fptr u y => match tagg D ft with
    | some ag => gate (Nat.blt 0 (tsz D ft)) (toPtr (u.sub y ag off (tsz D ft)))
    | none => no
  | _, _ => no
def aInt : AV → Option Int
  | .fz (.int _) n => some n
  | _ => none
theorem aInt_of {c : Cx} {i : AV} {n : Int} {j : Value} (h : aInt i = some n) (hi : Rel c i j) : ∃ k, j = .int k n := by
  cases i <;> try (cases h)
  rename_i u x
  cases u <;> try (cases h)
  exact ⟨_, rel_int.1 hi⟩
def aIndexAddrI (D : Tab) (A : List AO) (t : TypeId) (n : Int) : AV → AR
  | .fz (.list e) xs => match telem D t with
    | some el => gate (Nat.beq (tsz D el) e.size && Nat.blt 0 e.size) (some (inR n (List.length xs)), .fptr e (List.getD xs (Int.toNat n) e.dft))
    | none => no
  | .ref tok off len => match A[tok]?, telem D t with
    | some (.row e _), some el => gate (Nat.beq (tsz D el) e.size && Nat.blt 0 e.size) (some (inR n len), .elt tok (off + (Int.toNat n)) 0)
    | _, _ => no
  | .ptr tok off => match A[tok]?, tarr D t with
    | some (.box _), some (m, el) => gate (Nat.blt 0 (tsz D el)) (some (inR n m), .ptr tok (off + (Int.toNat n) * tsz D el))
    | _, _ => no
  | .fptr (.arr m e) x => match tarr D t with
    | some (m', el) => gate (Nat.beq m m' && Nat.beq (tsz D el) e.size && Nat.blt 0 e.size) (some (inR n m), .fptr e (List.getD x (Int.toNat n) e.dft))
    | none => no
  | _ => no
def aIndexAddr (D : Tab) (A : List AO) (t : TypeId) (x i : AV) : AR :=
  match aInt i with
  | some n => aIndexAddrI D A t n x
  | none => no
def oIs (b : Bool) : Option Bool → Bool
  | some c => bEq b c
  | none => false
theorem oIs_of {b : Bool} {o : Option Bool} (h : oIs b o = true) : o = some b := by
  cases o with
  | none => cases h
  | some c => rw [bEq_of h]
def aIndexI (D : Tab) (t : TypeId) (n : Int) : AV → AR
  | .fz (.arr m e) x => match tarr D t with
    | some (m', el) => gate (Nat.beq m m' && Nat.beq (tsz D el) e.size && oIs e.isAgg (tagg D el) && Nat.blt 0 e.size) (some (inR n m), .fz e (List.getD x (Int.toNat n) e.dft))
    | none => no
  | .fz .str s => gate (tstr D t) (some (inR n (ByteArray.size s)), .fz (.int .u8) ((((ByteArray.data s).toList.getD (Int.toNat n) 0).toNat : Nat) : Int))
  | .agg vs => match tarr D t with
    | some (m, el) => (andC (some (inR n m)) (aPart (tagg D el) ((Int.toNat n) * tsz D el) (tsz D el) (.agg vs)).1, (aPart (tagg D el) ((Int.toNat n) * tsz D el) (tsz D el) (.agg vs)).2)
    | none => no
  | _ => no
def aIndex (D : Tab) (t : TypeId) (x i : AV) : AR :=
  match aInt i with
  | some n => aIndexI D t n x
  | none => no
def aLoad (D : Tab) (G : List (Nat × Value)) (A : List AO) (t : TypeId) (x : AV) : AR :=
  match tagg D t, x with
  | some ag, .ptr tok off => match A[tok]? with
    | some (.box vs) => match ag with
      | true => gate (Nat.blt 0 (tsz D t) && Nat.ble (off + tsz D t) vs.length) (none, .agg ((vs.drop off).take (tsz D t)))
      | false => gate (Nat.beq (tsz D t) 1 && Nat.blt off vs.length) (none, vs.getD off .unk)
    | _ => no
  | some ag, .fptr u y => gate (Nat.beq (tsz D t) u.size && Nat.blt 0 u.size && bEq u.isAgg ag) (none, .fz u y)
  | some ag, .elt tok i off => match A[tok]? with
    | some (.row e xs) => match e.sub (List.getD xs i e.dft) ag off (tsz D t) with
      | some ⟨u, y⟩ => gate (Nat.blt 0 (tsz D t)) (some (i < List.length xs), .fz u y)
      | none => no
    | _ => no
  | some ag, .glob g => match gk G g with
    | some v => gate (bEq ag false && Nat.beq (tsz D t) 1) (none, .fz .raw v)
    | none => no
  | _, _ => no
theorem plain_add (b o k : Nat) : (⟨b, o, none⟩ : Addr).add k = ⟨b, o + k, none⟩ := by
  unfold Addr.add; split
  · rename_i h; rw [h]; rfl
  · rfl
theorem run_loadVar {P : Program} {D : Tab} (hD : TabOk P D) {w : World} {t : TypeId} {ag : Bool} {b o : Nat} {cs : List Value} (hag : tagg D t = some ag) (hsz : tsz D t = cs.length) (h0 : 0 < cs.length) (h1 : ag = false → cs.length = 1)
    (hc : ∀ j (h : j < cs.length), w.cell? ⟨b, o + j, none⟩ = some cs[j]) : (loadVar t ⟨b, o, none⟩).run P w = .ok (if ag = true then .agg cs.toArray else cs.headD .nilIface) w := by
  cases ag with
  | true =>
    have hl := run_loadCells_list (P := P) (w := w) ⟨b, o, none⟩ cs (fun j v hj => by
      have hlt := get_lt hj
      rw [plain_add, hc j hlt]; rw [List.getElem?_eq_getElem hlt] at hj; exact hj)
    simp [loadVar, run_isAgg hD hag, run_sizeOf hD hsz h0, hl]
  | false =>
    have hl := h1 rfl
    match cs, hl with
    | [v], _ =>
      have := hc 0 (by simp)
      simp at this
      simp [loadVar, run_isAgg hD hag, this]
theorem isAgg_size {u : Ty} (h : u.isAgg = false) : u.size = 1 := by cases u <;> first | rfl | (cases h)
theorem if_valOf {u : Ty} {cs : List Value} : (if u.isAgg = true then Value.agg cs.toArray else cs.headD .nilIface) = valOf u cs := rfl
theorem aLoad_sound {P : Program} {D : Tab} (hD : TabOk P D) {c : Cx} (H : HR c) {t : TypeId} {x : AV} {v : Value} (hx : Rel c x v) (h : Hold (aLoad D c.G c.A t x).1) :
    ∃ r, (Instr.loadAt t v).run P c.w = .ok r c.w ∧ Rel c (aLoad D c.G c.A t x).2 r := by
  unfold aLoad at *
  cases hag : tagg D t with
  | none => rw [hag] at h; exact False.elim h
  | some ag =>
    rw [hag] at h
    cases x <;> try exact False.elim h
    case fptr u y =>
      simp only at h ⊢
      obtain ⟨hb, _⟩ := gate_of h
      rw [gate_true hb]
      simp only [Bool.and_eq_true] at hb
      obtain ⟨⟨h1, h2⟩, h3⟩ := hb
      have h1 := beq_eq h1
      have h2 := blt_of h2
      have h3 := bEq_of h3
      unfold Rel at hx
      obtain ⟨b, o, cs, rfl, hI, hlt, hf, hc⟩ := hx
      have hl := hf.len
      refine ⟨valOf u cs, ?_, rel_fz_mk hf⟩
      have := run_loadVar hD (w := c.w) (t := t) (b := b) (o := o) (cs := cs) hag (by omega) (by omega) (fun ha => by subst h3; rw [hl]; exact isAgg_size ha) hc
      subst h3
      rw [if_valOf] at this
      simpa [Instr.loadAt, Instr.sureAddr] using this
    case glob g =>
      simp only at h ⊢
      cases hg : gk c.G g with
      | none => rw [hg] at h; exact False.elim h
      | some u =>
        rw [hg] at h
        obtain ⟨hb, _⟩ := gate_of h
        simp only
        rw [gate_true hb]
        simp only [Bool.and_eq_true] at hb
        have h1 := bEq_of hb.1
        subst h1
        obtain ⟨_, k2, k3, _⟩ := H.glo g u hg
        unfold Rel at hx
        subst hx
        refine ⟨u, ?_, (rel_raw k3).2 rfl⟩
        simp [Instr.loadAt, Instr.sureAddr, loadVar, run_isAgg hD hag, k2]
    case ptr tok off =>
      simp only at h ⊢
      unfold Rel at hx
      cases ht : c.A[tok]? with
      | none => rw [ht] at h; exact False.elim h
      | some o =>
        rw [ht] at h hx
        cases o <;> try exact False.elim h
        rename_i vs
        simp only at h hx ⊢
        obtain ⟨b, hr, rfl⟩ := hx
        have ho := H.obj tok _ ht
        rw [hr] at ho
        obtain ⟨b', cs, et, hb, hh, hrel⟩ := ho
        cases hb
        have hlen := hrel.length
        have hcell : ∀ j (hj : j < ((cs.drop off).take (tsz D t)).length), c.w.cell? ⟨b, off + j, none⟩ = some ((cs.drop off).take (tsz D t))[j] := by
          intro j hj
          simp at hj
          simp [World.cell?, hh]
        cases ag with
        | true =>
          simp only at h ⊢
          obtain ⟨hb, _⟩ := gate_of h
          rw [gate_true hb]
          simp only [Bool.and_eq_true] at hb
          have h1 := blt_of hb.1
          have h2 := Nat.le_of_ble_eq_true hb.2
          have := run_loadVar hD (w := c.w) (t := t) (b := b) (o := off) (cs := (cs.drop off).take (tsz D t)) hag (by simp; omega) (by simp; omega) (fun ha => by cases ha) hcell
          refine ⟨_, by simpa [Instr.loadAt, Instr.sureAddr] using this, ?_⟩
          unfold Rel
          refine ⟨(cs.drop off).take (tsz D t), by simp, RelL.of_get _ _ (by simp; omega) (fun i a v h1 h2 => ?_)⟩
          rw [List.getElem?_take, List.getElem?_drop] at h1 h2
          split at h1
          · rename_i hi
            rw [if_pos hi] at h2
            obtain ⟨v', e1, e2⟩ := hrel.get _ _ _ _ h1
            rw [e1] at h2; cases h2; exact e2
          · cases h1
        | false =>
          simp only at h ⊢
          obtain ⟨hb, _⟩ := gate_of h
          rw [gate_true hb]
          simp only [Bool.and_eq_true] at hb
          have h1 := beq_eq hb.1
          have hlt := blt_of hb.2
          have := run_loadVar hD (w := c.w) (t := t) (b := b) (o := off) (cs := (cs.drop off).take (tsz D t)) hag (by simp; omega) (by simp; omega) (fun ha => by simp; omega) hcell
          obtain ⟨v', e1, e2⟩ := hrel.get _ _ off (vs[off]) (List.getElem?_eq_getElem hlt)
          have e3 : ((cs.drop off).take (tsz D t)).headD .nilIface = v' := by
            rw [h1, List.drop_eq_getElem_cons (by omega)]
            rw [List.getElem?_eq_getElem (by omega)] at e1
            have := Option.some.inj e1
            rw [← this]; rfl
          simp only [Bool.false_eq_true, if_false] at this
          rw [e3] at this
          refine ⟨v', by simpa [Instr.loadAt, Instr.sureAddr] using this, ?_⟩
          simpa [List.getD, hlt] using e2
    case elt tok i off =>
      simp only at h ⊢
      unfold Rel at hx
      cases ht : c.A[tok]? with
      | none => rw [ht] at h; exact False.elim h
      | some o =>
        rw [ht] at h hx
        cases o <;> try exact False.elim h
        rename_i e xs
        simp only at h hx ⊢
        cases hs : e.sub (List.getD xs i e.dft) ag off (tsz D t) with
        | none => rw [hs] at h; exact False.elim h
        | some uy =>
          obtain ⟨u, y⟩ := uy
          rw [hs] at h
          simp only at h ⊢
          obtain ⟨hb, h1⟩ := gate_of h
          rw [gate_true hb]
          have h2 := blt_of hb
          obtain ⟨b, hr, rfl⟩ := hx
          have ho := H.obj tok _ ht
          rw [hr] at ho
          rcases ho with ⟨hn, _⟩ | ⟨b', cs, et, hb, hh, hrow⟩
          · cases hn
          · cases hb
            have h1 : i < List.length xs := h1
            obtain ⟨ds, hf, hd⟩ := hrow i h1
            have hg : List.getD xs i e.dft = xs[i] := by simp [List.getD, List.getElem?_eq_getElem h1]
            rw [hg] at hs
            obtain ⟨k1, k2, k3⟩ := sub_sound e _ ds ag off (tsz D t) u y hf hs
            have hl := k3.len
            have hle := k3.len
            simp at hle
            have hcell : ∀ j (hj : j < ((ds.drop off).take (tsz D t)).length), c.w.cell? ⟨b, i * e.size + off + j, none⟩ = some ((ds.drop off).take (tsz D t))[j] := by
              intro j hj
              simp at hj
              have := hd (off + j) (by omega)
              simp [World.cell?, hh, Nat.add_assoc, this]
            have := run_loadVar hD (w := c.w) (t := t) (b := b) (o := i * e.size + off) (cs := (ds.drop off).take (tsz D t)) hag (by rw [hl]; exact k1.symm) (by rw [hl]; omega) (fun ha => by rw [hl]; exact isAgg_size (k2.trans ha)) hcell
            subst k2
            rw [if_valOf] at this
            exact ⟨_, by simpa [Instr.loadAt, Instr.sureAddr] using this, rel_fz_mk k3⟩
end Go.Ab
