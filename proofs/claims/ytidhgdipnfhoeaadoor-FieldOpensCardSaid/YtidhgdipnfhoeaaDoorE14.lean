/-
  Opened, closed: the plain law (3).
-/
import Derived.Test.YtidhgdipnfhoeaaDoorE13
namespace Go.Proofs.YtidhgdipnfhoeaaDoor
open Go Go.Ab
set_option maxRecDepth 100000
theorem mem_rowW {F : List Int → Int} {a : Ras} {r : Int} {y : Nat} {v : Int} : ∀ {c : Nat}, v ∈ rowW F a r y c → ∃ x, x < c ∧ v = F (winW a r y x)
  | 0, h => by cases h
  | c + 1, h => by
    unfold rowW at h
    rcases List.mem_append.1 h with h | h
    · obtain ⟨x, h1, h2⟩ := mem_rowW h
      exact ⟨x, by omega, h2⟩
    · exact ⟨c, by omega, by simpa using h⟩
theorem mem_allW {F : List Int → Int} {a : Ras} {r : Int} {v : Int} : ∀ {n : Nat}, v ∈ allW F a r n → ∃ y x, y < n ∧ x < a.1.toNat ∧ v = F (winW a r y x)
  | 0, h => by cases h
  | n + 1, h => by
    unfold allW at h
    rcases List.mem_append.1 h with h | h
    · obtain ⟨y, x, h1, h2, h3⟩ := mem_allW h
      exact ⟨y, x, by omega, h2, h3⟩
    · obtain ⟨x, h1, h2⟩ := mem_rowW h
      exact ⟨n, x, by omega, h1, h2⟩
theorem rerr_mk {a : Ras} (h : 1 ≤ a.1 ∧ 1 ≤ a.2.1 ∧ a.1 ≤ 128 ∧ a.2.1 ≤ 128 ∧ (a.2.2.length : Int) = a.1 * a.2.1) (hb : ∀ x ∈ a.2.2, bigB x = false) : rerr a = 0 := by
  unfold rerr
  rw [if_neg (by omega), if_neg (by omega), if_neg]
  simp only [List.any_eq_true, not_exists, not_and, Bool.not_eq_true]
  exact hb
theorem onR_ok {F : List Int → Int} (hF : ∀ l, l ≠ [] → F l ∈ l) {a : Ras} {r : Int} (h : rerr a = 0) (hr : 0 ≤ r) : rerr (onR F a r) = 0 := by
  obtain ⟨⟨h1, h2, h3, h4, h5⟩, hb⟩ := rerr_ok h
  have hlen : (onR F a r).2.2.length = a.2.2.length := onR_len h
  refine rerr_mk ⟨h1, h2, h3, h4, by rw [hlen]; exact h5⟩ fun v hv => ?_
  obtain ⟨y, x, hy, hx, rfl⟩ := mem_allW (show v ∈ allW F a r a.2.1.toNat from hv)
  exact hb _ (segs_mem (hF _ (win_ne (r := y) (c := x) hr (by omega) (by omega) h5)))
theorem nearP.symm {r : Int} {y x y' x' : Nat} (h : nearP r y x y' x') : nearP r y' x' y x := ⟨h.2.1, h.1, h.2.2.2, h.2.2.1⟩
section
variable {a : Ras} {r : Int} (ha : rerr a = 0) (hr : 0 ≤ r)
include ha hr
theorem mx_ge {y x y' x' : Nat} (hy : (y : Int) < a.2.1) (hx : (x : Int) < a.1) (hy' : (y' : Int) < a.2.1) (hx' : (x' : Int) < a.1) (hn : nearP r y x y' x') : hat a y' x' ≤ hat (onR maxL a r) y x := by
  rw [hat_onR hy hx]
  exact max_ge ((mem_win hr hy hx (rerr_ok ha).1.2.2.2.2 _).2 ⟨y', x', hy', hx', hn, rfl⟩)
theorem mn_le {y x y' x' : Nat} (hy : (y : Int) < a.2.1) (hx : (x : Int) < a.1) (hy' : (y' : Int) < a.2.1) (hx' : (x' : Int) < a.1) (hn : nearP r y x y' x') : hat (onR minL a r) y x ≤ hat a y' x' := by
  rw [hat_onR hy hx]
  exact min_le ((mem_win hr hy hx (rerr_ok ha).1.2.2.2.2 _).2 ⟨y', x', hy', hx', hn, rfl⟩)
theorem mx_at {y x : Nat} (hy : (y : Int) < a.2.1) (hx : (x : Int) < a.1) : ∃ y' x' : Nat, (y' : Int) < a.2.1 ∧ (x' : Int) < a.1 ∧ nearP r y x y' x' ∧ hat (onR maxL a r) y x = hat a y' x' := by
  have h5 := (rerr_ok ha).1.2.2.2.2
  rw [hat_onR hy hx]
  exact (mem_win hr hy hx h5 _).1 (max_mem (win_ne hr hy hx h5))
theorem mn_at {y x : Nat} (hy : (y : Int) < a.2.1) (hx : (x : Int) < a.1) : ∃ y' x' : Nat, (y' : Int) < a.2.1 ∧ (x' : Int) < a.1 ∧ nearP r y x y' x' ∧ hat (onR minL a r) y x = hat a y' x' := by
  have h5 := (rerr_ok ha).1.2.2.2.2
  rw [hat_onR hy hx]
  exact (mem_win hr hy hx h5 _).1 (min_mem (win_ne hr hy hx h5))
theorem opn_hat {y x : Nat} (hy : (y : Int) < a.2.1) (hx : (x : Int) < a.1) : hat (opn a r) y x ≤ hat a y x := by
  obtain ⟨y', x', h1, h2, h3, h4⟩ := mx_at (onR_ok (fun _ => min_mem) ha hr) hr hy hx
  have := mn_le ha hr h1 h2 hy hx h3.symm
  unfold opn; omega
theorem cls_hat {y x : Nat} (hy : (y : Int) < a.2.1) (hx : (x : Int) < a.1) : hat a y x ≤ hat (cls a r) y x := by
  obtain ⟨y', x', h1, h2, h3, h4⟩ := mn_at (onR_ok (fun _ => max_mem) ha hr) hr hy hx
  have := mx_ge ha hr h1 h2 hy hx h3.symm
  unfold cls; omega
/-- what is opened is, made small, as it was made small ahead of it -/
theorem ero_opn {y x : Nat} (hy : (y : Int) < a.2.1) (hx : (x : Int) < a.1) : hat (onR minL (opn a r) r) y x = hat (onR minL a r) y x := by
  have he := onR_ok (F := minL) (fun _ => min_mem) ha hr
  have ho : rerr (opn a r) = 0 := onR_ok (fun _ => max_mem) he hr
  obtain ⟨y', x', h1, h2, h3, h4⟩ := mn_at ho hr hy hx
  have k1 := mx_ge he hr h1 h2 hy hx h3.symm
  obtain ⟨y2, x2, j1, j2, j3, j4⟩ := mn_at ha hr hy hx
  have k2 := mn_le ho hr hy hx j1 j2 j3
  have k3 := opn_hat ha hr j1 j2
  have h4' : hat (onR minL (opn a r) r) y x = hat (onR maxL (onR minL a r) r) y' x' := h4
  omega
theorem dil_cls {y x : Nat} (hy : (y : Int) < a.2.1) (hx : (x : Int) < a.1) : hat (onR maxL (cls a r) r) y x = hat (onR maxL a r) y x := by
  have he := onR_ok (F := maxL) (fun _ => max_mem) ha hr
  have ho : rerr (cls a r) = 0 := onR_ok (fun _ => min_mem) he hr
  obtain ⟨y', x', h1, h2, h3, h4⟩ := mx_at ho hr hy hx
  have k1 := mn_le he hr h1 h2 hy hx h3.symm
  obtain ⟨y2, x2, j1, j2, j3, j4⟩ := mx_at ha hr hy hx
  have k2 := mx_ge ho hr hy hx j1 j2 j3
  have k3 := cls_hat ha hr j1 j2
  have h4' : hat (onR maxL (cls a r) r) y x = hat (onR minL (onR maxL a r) r) y' x' := h4
  omega
end
end Go.Proofs.YtidhgdipnfhoeaaDoor
