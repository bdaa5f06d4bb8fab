/-
  Around each cell: the walk.
-/
import Derived.Test.YtidhgdipnfhoeaaDoorE3
namespace Go.Proofs.YtidhgdipnfhoeaaDoor
open Go Go.Ab
set_option maxRecDepth 100000
def errA (E : Errs) : Nat → Addr
  | 1 => E.text
  | 2 => E.bound
  | 3 => E.shape
  | 4 => E.range
  | _ => E.none
theorem valid_err (E : Errs) (a : Ras) (hl : a.2.2.length ≤ 1000000000000) (K : AV → List AO → Prop)
    (h0 : rerr a = 0 → K (.fz .raw .nilIface) []) (he : ∀ e, rerr a = e → 0 < e → K (.fz .raw (errV (errA E e))) []) : ACall Tryd.prog (GE E) 17 [.fz RasT a] [] K :=
  valid_any E a hl K h0 (fun h => he 2 h (by decide)) (fun h => he 3 h (by decide)) (fun h => he 4 h (by decide))
def aerr (a : Ras) (reach : Int) : Nat := if 0 < rerr a then rerr a else if reach < 0 ∨ 128 < reach then 3 else 0
def seg (a : Ras) (reach : Int) (c : Nat) (y : Int) : List Int := (a.2.2.drop (y * a.1 + max 0 (c - reach)).toNat).take ((y * a.1 + min (a.1 - 1) (c + reach) + 1).toNat - (y * a.1 + max 0 (c - reach)).toNat)
def segs (a : Ras) (reach : Int) (c : Nat) (lo : Int) : Nat → List Int
  | 0 => []
  | k + 1 => segs a reach c lo k ++ seg a reach c (lo + k)
/-- the cells around one -/
def winW (a : Ras) (reach : Int) (r c : Nat) : List Int := segs a reach c (max 0 (r - reach)) (min (a.2.1 - 1) (r + reach) + 1 - max 0 (r - reach)).toNat
def rowW (F : List Int → Int) (a : Ras) (reach : Int) (r : Nat) : Nat → List Int
  | 0 => []
  | c + 1 => rowW F a reach r c ++ [F (winW a reach r c)]
def allW (F : List Int → Int) (a : Ras) (reach : Int) : Nat → List Int
  | 0 => []
  | r + 1 => allW F a reach r ++ rowW F a reach r a.1.toNat
theorem row_bd {y H W : Int} (h1 : 0 ≤ y) (h2 : y + 1 ≤ H) (hW : 0 ≤ W) : 0 ≤ y * W ∧ y * W + W ≤ W * H := by
  have h3 := Int.mul_nonneg h1 hW
  have h4 : (y + 1) * W ≤ H * W := Int.mul_le_mul_of_nonneg_right h2 hW
  rw [Int.add_mul, Int.one_mul, Int.mul_comm H W] at h4
  exact ⟨h3, h4⟩
theorem seg_len {a : Ras} (h : a.1 ≤ 128) (reach : Int) (c : Nat) (y : Int) : (seg a reach c y).length ≤ 128 := by
  unfold seg; rw [List.length_take]; omega
theorem segs_len {a : Ras} (h : a.1 ≤ 128) (reach : Int) (c : Nat) (lo : Int) : ∀ k, (segs a reach c lo k).length ≤ k * 128
  | 0 => Nat.le_refl _
  | k + 1 => by
    have h1 := segs_len h reach c lo k
    have h2 := seg_len h reach c (lo + k)
    unfold segs; rw [List.length_append]; omega
theorem seg_mem {a : Ras} {reach : Int} {c : Nat} {y x : Int} (h : x ∈ seg a reach c y) : x ∈ a.2.2 := List.mem_of_mem_drop (List.mem_of_mem_take h)
theorem segs_mem {a : Ras} {reach : Int} {c : Nat} {lo x : Int} : ∀ {k}, x ∈ segs a reach c lo k → x ∈ a.2.2
  | 0, h => by cases h
  | k + 1, h => by
    unfold segs at h
    rcases List.mem_append.1 h with h | h
    · exact segs_mem h
    · exact seg_mem h
theorem win_ne {a : Ras} {reach : Int} {r c : Nat} (h0 : 0 ≤ reach) (hr : (r : Int) < a.2.1) (hc : (c : Int) < a.1) (hl : (a.2.2.length : Int) = a.1 * a.2.1) : winW a reach r c ≠ [] := by
  unfold winW
  obtain ⟨k, hk⟩ : ∃ k : Nat, (min (a.2.1 - 1) (r + reach) + 1 - max 0 (r - reach)).toNat = k + 1 := ⟨(min (a.2.1 - 1) (r + reach) + 1 - max 0 (r - reach)).toNat - 1, by omega⟩
  rw [hk]
  unfold segs
  have := row_bd (y := max 0 (r - reach) + k) (H := a.2.1) (W := a.1) (by omega) (by omega) (by omega)
  have h1 : 0 < (seg a reach c (max 0 (r - reach) + k)).length := by unfold seg; rw [List.length_take, List.length_drop]; omega
  intro he
  rw [List.append_eq_nil_iff] at he
  rw [he.2] at h1; simp at h1
theorem rerr_ok {a : Ras} (hv : rerr a = 0) : (1 ≤ a.1 ∧ 1 ≤ a.2.1 ∧ a.1 ≤ 128 ∧ a.2.1 ≤ 128 ∧ (a.2.2.length : Int) = a.1 * a.2.1) ∧ ∀ x ∈ a.2.2, bigB x = false := by
  unfold rerr at hv
  split at hv; omega
  split at hv; omega
  split at hv; omega
  rename_i h1 h2 h3
  refine ⟨by omega, fun x hx => ?_⟩
  simp only [List.any_eq_true, not_exists, not_and, Bool.not_eq_true] at h3
  exact h3 x hx
theorem rowW_len (F : List Int → Int) (a : Ras) (reach : Int) (r : Nat) : ∀ c, (rowW F a reach r c).length = c
  | 0 => rfl
  | c + 1 => by unfold rowW; rw [List.length_append, rowW_len F a reach r c]; rfl
theorem allW_len (F : List Int → Int) (a : Ras) (reach : Int) : ∀ r, (allW F a reach r).length = r * a.1.toNat
  | 0 => by simp [allW]
  | r + 1 => by unfold allW; rw [List.length_append, allW_len F a reach r, rowW_len, Nat.succ_mul]
theorem around_any (E : Errs) (a : Ras) (reach : Int) (g : FuncId) (F : List Int → Int)
    (hg : ∀ xs K, xs ≠ [] → xs.length ≤ 16384 → (∀ x ∈ xs, bigB x = false) → K (.fz int (F xs)) [] → ACall Tryd.prog (GE E) g [.fz (.list int) xs] [] K)
    (hl : a.2.2.length ≤ 1000000000000) (hr : I64 reach) (K : AV → List AO → Prop)
    (h0 : rerr a = 0 → 0 ≤ reach → reach ≤ 128 → K (.tup [.fz RasT (a.1, a.2.1, allW F a reach a.2.1.toNat), .fz .raw .nilIface]) [])
    (he : ∀ e, aerr a reach = e → 0 < e → K (.tup [.fz RasT (0, 0, []), .fz .raw (errV (errA E e))]) []) :
    ACall Tryd.prog (GE E) 40 [.fz RasT a, .fz int reach, .fn g []] [] K := by
  refine acall_mk (E := envAt (GE E) 96 0) (envOk _ _ _) Tryd.func40 rfl rfl rfl rfl rfl ?_
  (repeat' (first | exact trivial | exact fun h => h | refine And.intro ?_ ?_ | (intro hb; first | (simp at hb; done) | (simp at hb) | skip) | omega | exact rfl | exact Nat.le_refl _ | (show _ + 1 ≤ 4294967296; omega) | (dsimp only; omega) | (show wantB _ _ = true; simp; done) | (show wantB _ _ = true; simp; omega) | (show (_ : Bool) = _; simp_all; done) | (exfalso; omega) | refine aRegion_auto (by decide +kernel) ?_ | fail))
  refine acall_conv [.dat RasT] _ _ _ rfl trivial (acall_frame0 rfl (valid_err E a hl _ (fun hv => ?_) (fun e hv he0 => ?_)))
  · (repeat' (first | exact trivial | exact fun h => h | refine And.intro ?_ ?_ | (intro hb; first | (simp at hb; done) | (simp at hb) | skip) | omega | exact rfl | exact Nat.le_refl _ | (show _ + 1 ≤ 4294967296; omega) | (dsimp only; omega) | (show wantB _ _ = true; simp; done) | (show wantB _ _ = true; simp; omega) | (show (_ : Bool) = _; simp_all; done) | (exfalso; omega) | refine aRegion_auto (by decide +kernel) ?_ | fail))
    · rename_i hb
      (apply exEff; focus (repeat' (first | exact ⟨rfl, rfl⟩ | exact trivial | refine And.intro ?_ ?_ | omega | exact Nat.le_refl _ | (show _ + 1 ≤ 4294967296; omega))))
      (repeat' (first | exact trivial | exact fun h => h | refine And.intro ?_ ?_ | (intro hb; first | (simp at hb; done) | (simp at hb) | skip) | omega | exact rfl | exact Nat.le_refl _ | (show _ + 1 ≤ 4294967296; omega) | (dsimp only; omega) | (show wantB _ _ = true; simp; done) | (show wantB _ _ = true; simp; omega) | (show (_ : Bool) = _; simp_all; done) | (exfalso; omega) | refine aRegion_auto (by decide +kernel) ?_ | fail))
      refine ⟨_, _, (REnt.conv [.dat RasT, .keep] _ rfl trivial).trans (REnt.drop ⟨rfl, rfl⟩), ?_⟩
      exact he 3 (by unfold aerr; rw [if_neg (by omega), if_pos hb]) (by decide)
    rename_i hb
    obtain ⟨hW, hbig⟩ := rerr_ok hv
    obtain ⟨hW1, hH1, hW2, hH2, hlen⟩ := hW
    refine ⟨Nat, fun r => ⟨[(1, .fz int reach), (2, .fn g []), (3, .ptr 0 0), (6, .ptr 1 0), (7, .fz .raw .nilIface), (9, .ptr 2 0), (34, .fz int a.2.1), (35, .fz int r)], [.box [.fz int a.1, .fz int a.2.1, .fz (.list int) a.2.2], .box [.fz int 0, .fz int 0, .nilSl], .box [.fz int a.1, .fz int a.2.1, .ref 3 0 (allW F a reach r).length], .row int (allW F a reach r)]⟩, fun r => r ≤ a.2.1, fun r => a.2.1.toNat - r, 0, by show ((0 : Nat) : Int) ≤ _; omega, (Ent.nilBox 2 2 int rfl rfl).trans (Ent.sub rfl ⟨rfl, rfl, rfl, rfl, rfl, rfl, rfl, rfl⟩), ?_⟩
    intro r hr2
    (repeat' (first | exact trivial | exact fun h => h | refine And.intro ?_ ?_ | (intro hb; first | (simp at hb; done) | (simp at hb) | skip) | omega | exact rfl | exact Nat.le_refl _ | (show _ + 1 ≤ 4294967296; omega) | (dsimp only; omega) | (show wantB _ _ = true; simp; done) | (show wantB _ _ = true; simp; omega) | (show (_ : Bool) = _; simp_all; done) | (exfalso; omega) | refine aRegion_auto (by decide +kernel) ?_ | fail))
    · refine ⟨Nat, fun c => ⟨[(1, .fz int reach), (2, .fn g []), (3, .ptr 0 0), (6, .ptr 1 0), (7, .fz .raw .nilIface), (9, .ptr 2 0), (34, .fz int a.2.1), (35, .fz int r), (10, .fz int r), (39, .fz int a.1), (40, .fz int c)], [.box [.fz int a.1, .fz int a.2.1, .fz (.list int) a.2.2], .box [.fz int 0, .fz int 0, .nilSl], .box [.fz int a.1, .fz int a.2.1, .ref 3 0 (allW F a reach r ++ rowW F a reach r c).length], .row int (allW F a reach r ++ rowW F a reach r c)]⟩, fun c => c ≤ a.1, fun c => a.1.toNat - c, 0, by show ((0 : Nat) : Int) ≤ _; omega, Ent.sub (by simp [rowW]) ⟨rfl, rfl, rfl, rfl, rfl, rfl, rfl, rfl, rfl, rfl, rfl⟩, ?_⟩
      intro c hc2
      (repeat' (first | exact trivial | exact fun h => h | refine And.intro ?_ ?_ | (intro hb; first | (simp at hb; done) | (simp at hb) | skip) | omega | exact rfl | exact Nat.le_refl _ | (show _ + 1 ≤ 4294967296; omega) | (dsimp only; omega) | (show wantB _ _ = true; simp; done) | (show wantB _ _ = true; simp; omega) | (show (_ : Bool) = _; simp_all; done) | (exfalso; omega) | refine aRegion_auto (by decide +kernel) ?_ | fail))
      · refine ⟨Nat, fun k => ⟨[(1, .fz int reach), (2, .fn g []), (3, .ptr 0 0), (6, .ptr 1 0), (7, .fz .raw .nilIface), (9, .ptr 2 0), (34, .fz int a.2.1), (35, .fz int r), (10, .fz int r), (39, .fz int a.1), (40, .fz int c), (11, .fz int c), (12, .ref 4 0 (segs a reach c (max 0 (r - reach)) k).length), (13, .fz int (max 0 (r - reach) + k))], [.box [.fz int a.1, .fz int a.2.1, .fz (.list int) a.2.2], .box [.fz int 0, .fz int 0, .nilSl], .box [.fz int a.1, .fz int a.2.1, .ref 3 0 (allW F a reach r ++ rowW F a reach r c).length], .row int (allW F a reach r ++ rowW F a reach r c), .row int (segs a reach c (max 0 (r - reach)) k)]⟩, fun k => max 0 (r - reach) + (k : Int) ≤ min (a.2.1 - 1) (r + reach) + 1, fun k => 128 - k, 0, by show max 0 (r - reach) + ((0 : Nat) : Int) ≤ _; omega, (Ent.nil 12 int rfl).trans (Ent.sub rfl ⟨rfl, rfl, rfl, rfl, rfl, rfl, rfl, rfl, rfl, rfl, rfl, rfl, rfl, congrArg (AV.fz int) (show _ = max 0 ((r : Int) - reach) + ((0 : Nat) : Int) by omega)⟩), ?_⟩
        intro k hk
        have hp : max 0 (r - reach) + (k : Int) ≤ min (a.2.1 - 1) (r + reach) → 0 ≤ (max 0 (r - reach) + (k : Int)) * a.1 ∧ (max 0 (r - reach) + (k : Int)) * a.1 + a.1 ≤ a.1 * a.2.1 := fun h => row_bd (by omega) (by omega) (by omega)
        (repeat' (first | exact trivial | exact fun h => h | refine And.intro ?_ ?_ | (intro hb; first | (simp at hb; done) | (simp at hb) | skip) | omega | exact rfl | exact Nat.le_refl _ | (show _ + 1 ≤ 4294967296; omega) | (dsimp only; omega) | (show wantB _ _ = true; simp; done) | (show wantB _ _ = true; simp; omega) | (show (_ : Bool) = _; simp_all; done) | (exfalso; omega) | refine aRegion_auto (by decide +kernel) ?_ | fail))
        · have h1 := segs_len hW2 reach c (max 0 (r - reach)) k
          have h2 := seg_len hW2 reach c (max 0 (r - reach) + k)
          have h3 : (segs a reach c (max 0 (r - reach)) k).length + (seg a reach c (max 0 (r - reach) + k)).length ≤ 4294967296 := by omega
          exact h3
        · refine ⟨k + 1, by show _ + ((k + 1 : Nat) : Int) ≤ _; omega, by show _ - _ < _ - _; omega, Ent.ren [0, 1, 2, 3, 5] rfl ?_ ?_⟩
          · (repeat' (first | exact trivial | exact rfl | refine And.intro ?_ ?_))
            exact congrArg (fun l => some (AO.row int (l ++ seg a reach c (max 0 (r - reach) + k)))) (List.take_length (l := segs a reach c (max 0 (r - reach)) k))
          · (repeat' (first | exact trivial | exact rfl | refine And.intro ?_ ?_))
            · exact congrArg (AV.ref 5 0) (List.length_append).symm
            · exact congrArg (AV.fz int) (show max 0 ((r : Int) - reach) + (k : Int) + 1 = max 0 ((r : Int) - reach) + ((k + 1 : Nat) : Int) by omega)
        · have hk' : k = (min (a.2.1 - 1) (r + reach) + 1 - max 0 (r - reach)).toNat := by omega
          subst hk'
          (repeat' (first | exact trivial | exact fun h => h | refine And.intro ?_ ?_ | (intro hb; first | (simp at hb; done) | (simp at hb) | skip) | omega | exact rfl | exact Nat.le_refl _ | (show _ + 1 ≤ 4294967296; omega) | (dsimp only; omega) | (show wantB _ _ = true; simp; done) | (show wantB _ _ = true; simp; omega) | (show (_ : Bool) = _; simp_all; done) | (exfalso; omega) | refine aRegion_auto (by decide +kernel) ?_ | fail))
          apply exEff
          · refine acall_lend [.dat (.list int)] _ _ _ rfl ?_ rfl ?_
            · (repeat' (first | exact trivial | refine And.intro ?_ ?_ | (show _ ≤ _; omega) | (show _ ≤ _; simp; done)))
            refine acall_arg (hg (winW a reach r c) _ (win_ne (by omega) (by omega) (by omega) hlen) (by have := segs_len hW2 reach c (max 0 (r - reach)) (min (a.2.1 - 1) (r + reach) + 1 - max 0 (r - reach)).toNat; unfold winW; omega) (fun x hx => hbig x (segs_mem hx)) ?_) (congrArg (fun l => [AV.fz (.list int) l]) (List.take_length (l := winW a reach r c)).symm)
            exact ⟨rfl, rfl, rfl⟩
          (repeat' (first | exact trivial | exact fun h => h | refine And.intro ?_ ?_ | (intro hb; first | (simp at hb; done) | (simp at hb) | skip) | omega | exact rfl | exact Nat.le_refl _ | (show _ + 1 ≤ 4294967296; omega) | (dsimp only; omega) | (show wantB _ _ = true; simp; done) | (show wantB _ _ = true; simp; omega) | (show (_ : Bool) = _; simp_all; done) | (exfalso; omega) | refine aRegion_auto (by decide +kernel) ?_ | fail))
          have hal : (allW F a reach r ++ rowW F a reach r c).length ≤ 16512 := by
            rw [List.length_append, allW_len, rowW_len]
            have : r * a.1.toNat ≤ 128 * 128 := Nat.mul_le_mul (by omega) (by omega)
            omega
          (apply exEff; focus (repeat' (first | exact ⟨rfl, rfl⟩ | exact trivial | refine And.intro ?_ ?_ | omega | exact Nat.le_refl _ | (show _ + 1 ≤ 4294967296; omega))))
          (apply exEff; focus (repeat' (first | exact ⟨rfl, rfl⟩ | exact trivial | refine And.intro ?_ ?_ | omega | exact Nat.le_refl _ | (show _ + 1 ≤ 4294967296; omega))))
          (apply exEff; focus (repeat' (first | exact ⟨rfl, rfl⟩ | exact trivial | refine And.intro ?_ ?_ | omega | exact Nat.le_refl _ | (show _ + 1 ≤ 4294967296; omega))))
          (repeat' (first | exact trivial | exact fun h => h | refine And.intro ?_ ?_ | (intro hb; first | (simp at hb; done) | (simp at hb) | skip) | omega | exact rfl | exact Nat.le_refl _ | (show _ + 1 ≤ 4294967296; omega) | (dsimp only; omega) | (show wantB _ _ = true; simp; done) | (show wantB _ _ = true; simp; omega) | (show (_ : Bool) = _; simp_all; done) | (exfalso; omega) | refine aRegion_auto (by decide +kernel) ?_ | fail))
          refine ⟨c + 1, by show ((c + 1 : Nat) : Int) ≤ _; omega, by show _ - _ < _ - _; omega, Ent.ren [0, 1, 2, 6] rfl ?_ ?_⟩
          · (repeat' (first | exact trivial | exact rfl | refine And.intro ?_ ?_))
            · exact congrArg (fun n => some (AO.box [.fz int a.1, .fz int a.2.1, .ref 6 0 n])) (show (allW F a reach r ++ rowW F a reach r c).length + 1 = (allW F a reach r ++ (rowW F a reach r c ++ [F (winW a reach r c)])).length by rw [← List.append_assoc, List.length_append (bs := [_])]; rfl)
            · exact congrArg (fun l => some (AO.row int l)) (show List.take (allW F a reach r ++ rowW F a reach r c).length (allW F a reach r ++ rowW F a reach r c) ++ [F (winW a reach r c)] = allW F a reach r ++ (rowW F a reach r c ++ [F (winW a reach r c)]) by rw [List.take_length, List.append_assoc])
          · (repeat' (first | exact trivial | exact rfl | refine And.intro ?_ ?_))
      · have hc : c = a.1.toNat := by omega
        subst hc
        (repeat' (first | exact trivial | exact fun h => h | refine And.intro ?_ ?_ | (intro hb; first | (simp at hb; done) | (simp at hb) | skip) | omega | exact rfl | exact Nat.le_refl _ | (show _ + 1 ≤ 4294967296; omega) | (dsimp only; omega) | (show wantB _ _ = true; simp; done) | (show wantB _ _ = true; simp; omega) | (show (_ : Bool) = _; simp_all; done) | (exfalso; omega) | refine aRegion_auto (by decide +kernel) ?_ | fail))
        refine ⟨r + 1, by show ((r + 1 : Nat) : Int) ≤ _; omega, by show _ - _ < _ - _; omega, Ent.sub rfl ?_⟩
        (repeat' (first | exact trivial | exact rfl | refine And.intro ?_ ?_))
    · have hr' : r = a.2.1.toNat := by omega
      subst hr'
      (repeat' (first | exact trivial | exact fun h => h | refine And.intro ?_ ?_ | (intro hb; first | (simp at hb; done) | (simp at hb) | skip) | omega | exact rfl | exact Nat.le_refl _ | (show _ + 1 ≤ 4294967296; omega) | (dsimp only; omega) | (show wantB _ _ = true; simp; done) | (show wantB _ _ = true; simp; omega) | (show (_ : Bool) = _; simp_all; done) | (exfalso; omega) | refine aRegion_auto (by decide +kernel) ?_ | fail))
      refine ⟨_, _, (REnt.conv [.dat RasT, .keep] _ rfl ?_).trans (REnt.drop ⟨rfl, rfl⟩), ?_⟩
      · (repeat' (first | exact trivial | refine And.intro ?_ ?_ | (show _ ≤ _; omega) | (show _ ≤ _; simp; done)))
      · exact (congrArg (fun l => K (.tup [.fz RasT (a.1, a.2.1, l), .fz .raw .nilIface]) []) List.take_length).mpr (h0 hv (by omega) (by omega))
  · (repeat' (first | exact trivial | exact fun h => h | refine And.intro ?_ ?_ | (intro hb; first | (simp at hb; done) | (simp at hb) | skip) | omega | exact rfl | exact Nat.le_refl _ | (show _ + 1 ≤ 4294967296; omega) | (dsimp only; omega) | (show wantB _ _ = true; simp; done) | (show wantB _ _ = true; simp; omega) | (show (_ : Bool) = _; simp_all; done) | (exfalso; omega) | refine aRegion_auto (by decide +kernel) ?_ | fail))
    refine ⟨_, _, (REnt.conv [.dat RasT, .keep] _ rfl trivial).trans (REnt.drop ⟨rfl, rfl⟩), ?_⟩
    exact he e (by unfold aerr; rw [if_pos (by omega)]; exact hv) he0
end Go.Proofs.YtidhgdipnfhoeaaDoor
