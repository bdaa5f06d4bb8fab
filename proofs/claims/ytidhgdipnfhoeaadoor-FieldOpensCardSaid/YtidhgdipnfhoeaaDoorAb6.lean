/-
  Operations that only look (5): values' parts, picks, numbers, slices, and all together.
-/
import Derived.Test.YtidhgdipnfhoeaaDoorAb5
namespace Go.Ab
open Go
theorem rel_agg' {c : Cx} {u : Ty} {x : u.den} {v : Value} (ha : u.isAgg = true) (h : Rel c (.fz u x) v) : ∃ cs : Array Value, v = .agg cs := by
  obtain ⟨cs, rfl, _⟩ := rel_agg ha h; exact ⟨_, rfl⟩
theorem aPart_agg {c : Cx} {ag : Option Bool} {off sz : Nat} {x : AV} {v : Value} (hx : Rel c x v) (h : Hold (aPart ag off sz x).1) : ∃ cs : Array Value, v = .agg cs := by
  unfold aPart at h
  cases x <;> try exact False.elim h
  · rename_i u x
    cases ag with
    | none => exact False.elim h
    | some b =>
      simp only at h
      cases hs : u.sub x b off sz with
      | none => rw [hs] at h; exact False.elim h
      | some uy =>
        obtain ⟨u', y⟩ := uy
        rw [hs] at h
        obtain ⟨hb, _⟩ := gate_of h
        simp only [Bool.and_eq_true] at hb
        exact rel_agg' hb.2 hx
  · unfold Rel at hx; obtain ⟨us, rfl, _⟩ := hx; exact ⟨_, rfl⟩
theorem aField_sound {P : Program} {D : Tab} (hD : TabOk P D) {c : Cx} {t : TypeId} {f : Nat} {x : AV} {v : Value} (hx : Rel c x v) (h : Hold (aField D t f x).1) :
    ∃ r, (Instr.field t v f).run P c.w = .ok r c.w ∧ Rel c (aField D t f x).2 r := by
  unfold aField at *
  cases hf : tfld D t f with
  | none => rw [hf] at h; exact False.elim h
  | some p =>
    obtain ⟨off, ft⟩ := p
    rw [hf] at h
    simp only at h ⊢
    obtain ⟨fs, fd, hu, hfs, rfl, rfl⟩ := of_tfld hD hf
    obtain ⟨cs, rfl⟩ := aPart_agg hx h
    obtain ⟨r, h1, h2⟩ := aPart_sound hD hx h
    exact ⟨r, by simp [Instr.field, run_underlying' hu, hfs, asAgg, h1], h2⟩
theorem aIndex_sound {P : Program} {D : Tab} (hD : TabOk P D) {c : Cx} {t : TypeId} {x i : AV} {v j : Value} (hx : Rel c x v) (hi : Rel c i j) (h : Hold (aIndex D t x i).1) :
    ∃ r, (Instr.index t v j).run P c.w = .ok r c.w ∧ Rel c (aIndex D t x i).2 r := by
  unfold aIndex at *
  cases hn : aInt i with
  | none => rw [hn] at h; exact False.elim h
  | some n =>
  rw [hn] at h
  simp only at h ⊢
  obtain ⟨k, rfl⟩ := aInt_of hn hi
  clear hn hi
  unfold aIndexI at *
  cases x <;> try exact False.elim h
  case fz u xs =>
    cases u <;> try exact False.elim h
    case str =>
      simp only at h ⊢
      obtain ⟨hb, h2, h3⟩ := gate_of h
      rw [gate_true hb]
      have h1 := of_tstr hD hb
      obtain rfl := rel_str.1 hx
      obtain ⟨q, rfl⟩ := Int.eq_ofNat_of_zero_le h2
      have hq : q < ByteArray.size xs := by omega
      have hg : (xs : ByteArray)[q]? = some ((ByteArray.data xs).toList.getD (Int.toNat (q : Int)) 0) := by
        rw [Int.toNat_natCast, getD_of_lt (by simpa using hq)]
        simp [hq]; rfl
      refine ⟨.int .u8 ((((ByteArray.data xs).toList.getD (Int.toNat (q : Int)) 0).toNat : Nat) : Int), ?_, rel_int.2 rfl⟩
      simp [Instr.index, asIntOf, run_underlying' h1, hg]
    case arr m e =>
      simp only at h ⊢
      cases hel : tarr D t with
      | none => rw [hel] at h; exact False.elim h
      | some me =>
        obtain ⟨m', el⟩ := me
        rw [hel] at h
        simp only at h ⊢
        obtain ⟨hb, h3, h4⟩ := gate_of h
        rw [gate_true hb]
        simp only [Bool.and_eq_true] at hb
        have h0 := beq_eq hb.1.1.1
        have h1 := beq_eq hb.1.1.2
        have hag := oIs_of hb.1.2
        have h2 := blt_of hb.2
        subst h0
        obtain ⟨q, rfl⟩ := Int.eq_ofNat_of_zero_le h3
        have hm : q < m := by omega
        obtain ⟨cs, rfl, hfz⟩ := rel_agg rfl hx
        obtain ⟨hl, css, hn, rfl, hall⟩ := hfz
        have hlen : ∀ j, j < css.length → (css.getD j []).length = e.size := fun j hj => (hall j (by rw [hl, ← hn]; exact hj)).len
        have hg : List.getD xs (Int.toNat (q : Int)) e.dft = xs[q]'(by rw [hl]; exact hm) := by rw [Int.toNat_natCast]; exact getD_of_lt (by rw [hl]; exact hm)
        have hf := hall q (by rw [hl]; exact hm)
        have h5 := getD_flatten (s := e.size) css q 0 e.size hlen (by omega) (by omega)
        have h6 : (css.flatten.drop (q * e.size)).take e.size = css.getD q [] := by
          rw [Nat.add_zero] at h5; rw [h5, List.drop_zero, ← hlen q (by omega), List.take_length]
        rw [hg]
        refine ⟨valOf e (css.getD q []), ?_, rel_fz_mk hf⟩
        unfold valOf
        cases ha : e.isAgg with
        | true =>
          rw [ha] at hag
          simp [Instr.index, asIntOf, run_underlying' (of_tarr hD hel), run_sizeOf hD h1 h2, part, run_isAgg hD hag, hm]
          have := h6
          simpa using this
        | false =>
          rw [ha] at hag
          have hs1 := isAgg_size ha
          have hq := hlen q (by omega)
          rw [hs1] at hq h6
          have h7 : css.flatten[q * 1]? = some ((css.getD q []).headD .nilIface) := by
            have h8 : css.flatten[q * 1]? = (css.getD q [])[0]? := by rw [← h6, List.getElem?_take, if_pos (by omega), List.getElem?_drop, Nat.add_zero]
            rw [h8]
            match css.getD q [], hq with
            | [v], _ => rfl
          rw [Nat.mul_one] at h7
          simp [Instr.index, asIntOf, run_underlying' (of_tarr hD hel), run_sizeOf hD (h1.trans hs1) (by omega), part, run_isAgg hD hag, hm, h7]
  case agg vs =>
    simp only at h ⊢
    cases hel : tarr D t with
    | none => rw [hel] at h; exact False.elim h
    | some me =>
      obtain ⟨m, el⟩ := me
      rw [hel] at h
      simp only at h ⊢
      obtain ⟨⟨h3, h4⟩, h5⟩ := andC_of h
      obtain ⟨q, rfl⟩ := Int.eq_ofNat_of_zero_le h3
      have hm : q < m := by omega
      obtain ⟨cs, rfl⟩ := aPart_agg hx h5
      obtain ⟨r, k1, k2⟩ := aPart_sound hD hx h5
      have hz : 0 < tsz D el := by
        unfold aPart at h5
        cases hg : tagg D el with
        | none => rw [hg] at h5; exact h5.elim
        | some b =>
          rw [hg] at h5
          cases b with
          | true => exact blt_of (gate_of h5).1
          | false =>
            have hb := (gate_of h5).1
            simp only [Bool.and_eq_true] at hb
            exact blt_of hb.1
      refine ⟨r, ?_, k2⟩
      rw [Int.toNat_natCast] at k1
      simp [Instr.index, asIntOf, run_underlying' (of_tarr hD hel), run_sizeOf hD rfl hz, hm, k1]
theorem stripO_sound {c : Cx} {g : Bool} {a : AV} {v : Value} (h : Rel c a v) (hg : g = true) (hs : Hold (stripO g a).1) : Rel c (stripO g a).2 v := by
  cases a <;> try exact h
  unfold Rel at h
  exact h.1 (hs hg)
theorem iteAV_sound {c : Cx} {g : Bool} {a b : AV} {v : Value} (h1 : g = true → Rel c a v) (h2 : g = false → Rel c b v) : Rel c (iteAV g a b) v := by
  unfold iteAV
  split
  · cases g
    · exact h2 rfl
    · exact h1 rfl
  · cases g
    · exact h2 rfl
    · exact h1 rfl
  · cases g
    · exact h2 rfl
    · exact h1 rfl
theorem aPick_sound {P : Program} {c : Cx} {x a b : AV} {vx va vb : Value} (hx : Rel c x vx) (ha : Rel c a va) (hb : Rel c b vb) (h : Hold (aPick x a b).1) :
    ∃ r, (do pure (if ← asBool vx then va else vb) : Sem Value).run P c.w = .ok r c.w ∧ Rel c (aPick x a b).2 r := by
  unfold aPick at *
  cases x <;> try exact False.elim h
  rename_i u g
  cases u <;> try exact False.elim h
  obtain rfl := rel_bool.1 hx
  refine ⟨if g = true then va else vb, by simp [asBool], ?_⟩
  simp only at h ⊢
  unfold pickAV at *
  split at h
  · rename_i y hy1 hy2
    obtain ⟨hg, hb1⟩ := andC_of h
    have hg : g = false := hg
    rw [if_neg (by simp [hg])]
    exact stripO_sound hb (by simp [hg]) hb1
  · rename_i y hy1 hy2 hy3
    obtain ⟨hg, ha1⟩ := andC_of h
    have hg : g = true := hg
    rw [if_pos hg]
    exact stripO_sound ha hg ha1
  obtain ⟨ha1, hb1⟩ := andC_of h
  refine iteAV_sound (fun hg => ?_) (fun hg => ?_)
  · rw [if_pos hg]; exact stripO_sound ha hg ha1
  · rw [if_neg (by simp [hg])]; exact stripO_sound hb (by simp [hg]) hb1
end Go.Ab
