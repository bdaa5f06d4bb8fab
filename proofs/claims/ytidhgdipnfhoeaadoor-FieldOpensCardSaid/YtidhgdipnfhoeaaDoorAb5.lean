/-
  Operations that only look (4): fields, indexes, picks, numbers, making of values.
-/
import Derived.Test.YtidhgdipnfhoeaaDoorAb4
namespace Go.Ab
open Go
theorem run_underlying' {P : Program} {t : TypeId} {d : TypeDesc} (h : P.underlying t = some d) (w : World) : (underlying t).run P w = .ok d w := by
  simp [underlying, h]
theorem aFieldAddr_sound {P : Program} {D : Tab} (hD : TabOk P D) {c : Cx} {t : TypeId} {f : Nat} {x : AV} {v : Value} (hx : Rel c x v) (h : Hold (aFieldAddr D c.A t f x).1) :
    ∃ r, (Instr.fieldAt t v f).run P c.w = .ok r c.w ∧ Rel c (aFieldAddr D c.A t f x).2 r := by
  unfold aFieldAddr at *
  cases hf : tfld D t f with
  | none => rw [hf] at h; cases x <;> exact False.elim h
  | some p =>
    obtain ⟨off, ft⟩ := p
    rw [hf] at h
    obtain ⟨fs, fd, hu, hfs, rfl, rfl⟩ := of_tfld hD hf
    have key : ∀ (b o : Nat), 0 < tsz D fd.type → (Instr.fieldAt t (.pointer (some ⟨b, o, none⟩)) f).run P c.w = .ok (.pointer (some ⟨b, o + fd.offset, none⟩)) c.w := by
      intro b o hz
      simp [Instr.fieldAt, run_underlying' hu, hfs, Instr.sureAddr, fieldPlace, run_sizeOf hD rfl hz, plain_add]
      intro h0; omega
    cases x <;> try exact False.elim h
    case ptr tok o =>
      simp only at h ⊢
      unfold Rel at hx
      cases ht : c.A[tok]? with
      | none => rw [ht] at h; exact False.elim h
      | some ob =>
        rw [ht] at hx h
        cases ob <;> try exact False.elim h
        obtain ⟨b, hr, rfl⟩ := hx
        obtain ⟨hb, _⟩ := gate_of h
        rw [gate_true hb]
        exact ⟨_, key b o (blt_of hb), by unfold Rel; rw [ht]; exact ⟨b, hr, rfl⟩⟩
    case elt tok i o =>
      simp only at h ⊢
      unfold Rel at hx
      cases ht : c.A[tok]? with
      | none => rw [ht] at h; exact False.elim h
      | some ob =>
        rw [ht] at hx h
        cases ob <;> try exact False.elim h
        obtain ⟨b, hr, rfl⟩ := hx
        obtain ⟨hb, _⟩ := gate_of h
        rw [gate_true hb]
        exact ⟨_, key b _ (blt_of hb), by unfold Rel; rw [ht]; exact ⟨b, hr, by rw [Nat.add_assoc]⟩⟩
    case fptr u y =>
      simp only at h ⊢
      cases hag : tagg D fd.type with
      | none => rw [hag] at h; exact False.elim h
      | some ag =>
        rw [hag] at h
        simp only at h ⊢
        obtain ⟨hb, h⟩ := gate_of h
        rw [gate_true hb]
        have hz := blt_of hb
        cases hs : u.sub y ag fd.offset (tsz D fd.type) with
        | none => rw [hs] at h; exact False.elim h
        | some uy =>
          obtain ⟨u', y'⟩ := uy
          simp only [toPtr]
          unfold Rel at hx
          obtain ⟨b, o, cs, rfl, hI, hlt, hfz, hc⟩ := hx
          obtain ⟨k1, k2, k3⟩ := sub_sound u y cs ag _ _ u' y' hfz hs
          refine ⟨_, key b o hz, ?_⟩
          unfold Rel
          refine ⟨b, o + fd.offset, _, rfl, hI, hlt, k3, fun j hj => ?_⟩
          simp at hj
          have := hc (fd.offset + j) (by omega)
          simp [Nat.add_assoc, this]
theorem getD_of_lt {α : Type} {l : List α} {i : Nat} {d : α} (h : i < l.length) : l.getD i d = l[i] := by simp [List.getD, List.getElem?_eq_getElem h]
theorem aIndexAddr_sound {P : Program} {D : Tab} (hD : TabOk P D) {c : Cx} {t : TypeId} {x i : AV} {v j : Value} (hx : Rel c x v) (hi : Rel c i j) (h : Hold (aIndexAddr D c.A t x i).1) :
    ∃ r, (Instr.indexAt t v j).run P c.w = .ok r c.w ∧ Rel c (aIndexAddr D c.A t x i).2 r := by
  unfold aIndexAddr at *
  cases hn : aInt i with
  | none => rw [hn] at h; exact False.elim h
  | some n =>
  rw [hn] at h
  simp only at h ⊢
  obtain ⟨k, rfl⟩ := aInt_of hn hi
  clear hn hi
  unfold aIndexAddrI at *
  cases x <;> try exact False.elim h
  case fz u xs =>
    cases u <;> try exact False.elim h
    rename_i e
    simp only at h ⊢
    cases hel : telem D t with
    | none => rw [hel] at h; exact False.elim h
    | some el =>
      rw [hel] at h
      simp only at h ⊢
      obtain ⟨hb, h3, h4⟩ := gate_of h
      rw [gate_true hb]
      simp only [Bool.and_eq_true] at hb
      have h1 := beq_eq hb.1
      have h2 := blt_of hb.2
      obtain ⟨p, cap, rfl, hf⟩ := rel_list hx
      obtain ⟨m, rfl⟩ := Int.eq_ofNat_of_zero_le h3
      have hm : m < List.length xs := by omega
      unfold FzC at hf
      obtain ⟨p', cap', hv, _, hall⟩ := hf
      simp at hv
      obtain ⟨rfl, rfl⟩ := hv
      obtain ⟨b, o, cs, rfl, hI, hlt, hfz, hc⟩ := hall m hm
      refine ⟨.pointer (some ⟨b, o + m * e.size, none⟩), ?_, ?_⟩
      · simp [Instr.indexAt, asIntOf, run_underlying' (of_telem hD hel), run_sizeOf hD h1 h2, plain_add, hm]
      · unfold Rel
        refine ⟨b, _, cs, rfl, hI, hlt, ?_, hc⟩
        have : List.getD xs (Int.toNat (m : Int)) e.dft = xs[m] := by rw [Int.toNat_natCast]; exact getD_of_lt hm
        rw [this]; exact hfz
  case ref tok off len =>
    simp only at h ⊢
    unfold Rel at hx
    cases ht : c.A[tok]? with
    | none => rw [ht] at h; exact False.elim h
    | some o =>
      rw [ht] at h hx
      cases o <;> try exact False.elim h
      rename_i e xs
      simp only at h hx ⊢
      cases hel : telem D t with
      | none => rw [hel] at h; exact False.elim h
      | some el =>
        rw [hel] at h
        simp only at h ⊢
        obtain ⟨hb, h3, h4⟩ := gate_of h
        rw [gate_true hb]
        simp only [Bool.and_eq_true] at hb
        have h1 := beq_eq hb.1
        have h2 := blt_of hb.2
        obtain ⟨m, rfl⟩ := Int.eq_ofNat_of_zero_le h3
        rcases hx with ⟨b, cap, cs, et, a, hr, rfl, ha, hle, hh, hsz⟩ | ⟨_, _, hl, _⟩
        · have := ha (by omega); subst this
          have hm : m < len := by omega
          refine ⟨.pointer (some ⟨b, off * e.size + m * e.size, none⟩), ?_, ?_⟩
          · simp [Instr.indexAt, asIntOf, run_underlying' (of_telem hD hel), run_sizeOf hD h1 h2, plain_add, hm]
          · unfold Rel; rw [ht]; exact ⟨b, hr, by rw [Int.toNat_natCast, Nat.add_mul, Nat.add_zero]⟩
        · omega
  case ptr tok off =>
    simp only at h ⊢
    unfold Rel at hx
    cases ht : c.A[tok]? with
    | none => rw [ht] at h; exact False.elim h
    | some o =>
      rw [ht] at h hx
      cases o <;> try exact False.elim h
      simp only at h hx ⊢
      cases hel : tarr D t with
      | none => rw [hel] at h; exact False.elim h
      | some me =>
        obtain ⟨m, el⟩ := me
        rw [hel] at h
        simp only at h ⊢
        obtain ⟨hb, h3, h4⟩ := gate_of h
        rw [gate_true hb]
        have h1 := blt_of hb
        obtain ⟨q, rfl⟩ := Int.eq_ofNat_of_zero_le h3
        obtain ⟨b, hr, rfl⟩ := hx
        have hm : q < m := by omega
        refine ⟨.pointer (some ⟨b, off + q * tsz D el, none⟩), ?_, ?_⟩
        · simp [Instr.indexAt, asIntOf, run_underlying' (of_tarr hD hel), run_sizeOf hD rfl h1, plain_add, Instr.sureAddr, hm]
        · unfold Rel; rw [ht]; exact ⟨b, hr, by rw [Int.toNat_natCast]⟩
  case fptr u y =>
    cases u <;> try exact False.elim h
    rename_i m e
    simp only at h ⊢
    cases hel : tarr D t with
    | none => rw [hel] at h; exact False.elim h
    | some me =>
      obtain ⟨m', el⟩ := me
      rw [hel] at h
      simp only at h ⊢
      obtain ⟨hb, h3, h4⟩ := gate_of h
      rw [gate_true hb]
      simp only [Bool.and_eq_true] at hb
      have h0 := beq_eq hb.1.1
      have h1 := beq_eq hb.1.2
      have h2 := blt_of hb.2
      subst h0
      obtain ⟨q, rfl⟩ := Int.eq_ofNat_of_zero_le h3
      have hm : q < m := by omega
      unfold Rel at hx
      obtain ⟨b, o, cs, rfl, hI, hlt, hfz, hc⟩ := hx
      obtain ⟨hl, css, hn, rfl, hall⟩ := hfz
      have hlen : ∀ j, j < css.length → (css.getD j []).length = e.size := fun j hj => (hall j (by rw [hl, ← hn]; exact hj)).len
      have hg : List.getD y (Int.toNat (q : Int)) e.dft = y[q]'(by rw [hl]; exact hm) := by rw [Int.toNat_natCast]; exact getD_of_lt (by rw [hl]; exact hm)
      have hf := hall q (by rw [hl]; exact hm)
      refine ⟨.pointer (some ⟨b, o + q * e.size, none⟩), ?_, ?_⟩
      · simp [Instr.indexAt, asIntOf, run_underlying' (of_tarr hD hel), run_sizeOf hD h1 h2, plain_add, Instr.sureAddr, hm]
      · rw [hg]
        unfold Rel
        refine ⟨b, _, css.getD q [], rfl, hI, hlt, hf, fun j hj => ?_⟩
        have hq := hlen q (by omega)
        have h5 := getD_flatten (s := e.size) css q 0 e.size hlen (by omega) (by omega)
        have h6 : (css.flatten.drop (q * e.size)).take e.size = css.getD q [] := by
          rw [Nat.add_zero] at h5; rw [h5, List.drop_zero, ← hq, List.take_length]
        have h7 : css.flatten[q * e.size + j]? = (css.getD q [])[j]? := by
          rw [← h6, List.getElem?_take, if_pos (by omega), List.getElem?_drop]
        rw [List.getElem?_eq_getElem hj] at h7
        have h8 := hc (q * e.size + j) (get_lt h7)
        rw [List.getElem?_eq_getElem (get_lt h7)] at h7
        rw [Nat.add_assoc, h8]; exact h7
end Go.Ab
