/-
  Operations that only look: what an abstract state makes of them, and that the real ones do so (2).
-/
import Derived.Test.YtidhgdipnfhoeaaDoorAb2
namespace Go.Ab
open Go
/-! ### reading of a relation -/
theorem rel_int {c : Cx} {k : IntKind} {n : Int} {v : Value} : Rel c (.fz (.int k) n) v ↔ v = .int k n := by
  unfold Rel FzC valOf; simp [Ty.isAgg]
theorem rel_bool {c : Cx} {b : Bool} {v : Value} : Rel c (.fz .bool b) v ↔ v = .bool b := by
  unfold Rel FzC valOf; simp [Ty.isAgg]
theorem rel_str {c : Cx} {s : ByteArray} {v : Value} : Rel c (.fz .str s) v ↔ v = .string s := by
  unfold Rel FzC valOf; simp [Ty.isAgg]
theorem rel_flt {c : Cx} {k : FloatKind} {n : Nat} {v : Value} : Rel c (.fz (.flt k) n) v ↔ v = .float k n := by
  unfold Rel FzC valOf; simp [Ty.isAgg]
theorem rel_raw {c : Cx} {x : Value} {v : Value} (h : ocell x = true) : Rel c (.fz .raw x) v ↔ v = x := by
  unfold Rel FzC valOf; simp [Ty.isAgg, h]
theorem rel_raw_of {c : Cx} {x : Value} {v : Value} (h : Rel c (.fz .raw x) v) : v = x ∧ ocell x = true := by
  unfold Rel FzC at h
  obtain ⟨cs, ⟨h1, h2⟩, h3⟩ := h
  subst h1
  exact ⟨h3, h2⟩
theorem rel_list {c : Cx} {e : Ty} {xs : List e.den} {v : Value} (h : Rel c (.fz (.list e) xs) v) : ∃ p cap, v = .slice p xs.length cap ∧ FzC c.I c.w (.list e) xs [v] := by
  unfold Rel at h
  obtain ⟨cs, h1, h2⟩ := h
  have h1' := h1
  unfold FzC at h1
  obtain ⟨p, cap, rfl, _⟩ := h1
  simp [valOf, Ty.isAgg] at h2
  subst h2
  exact ⟨p, cap, rfl, h1'⟩
theorem rel_agg {c : Cx} {t : Ty} {x : t.den} {v : Value} (ha : t.isAgg = true) (h : Rel c (.fz t x) v) : ∃ cs, v = .agg cs.toArray ∧ FzC c.I c.w t x cs := by
  unfold Rel at h
  obtain ⟨cs, h1, h2⟩ := h
  unfold valOf at h2; rw [if_pos ha] at h2
  exact ⟨cs, h2, h1⟩
theorem rel_fz_mk {c : Cx} {t : Ty} {x : t.den} {cs : List Value} (h : FzC c.I c.w t x cs) : Rel c (.fz t x) (valOf t cs) := by
  unfold Rel; exact ⟨cs, h, rfl⟩
/-! ### operands -/
def lk : List (Nat × AV) → Nat → AV
  | [], _ => .unk
  | (m, v) :: T, n => if m = n then v else lk T n
def ofV0 : Value → AV
  | .int k n => .fz (.int k) n
  | .bool b => .fz .bool b
  | .string s => .fz .str s
  | .float k n => .fz (.flt k) n
  | .slice none 0 0 => .nilSl
  | .nilIface => .fz .raw .nilIface
  | .nilFunc => .fz .raw .nilFunc
  | .pointer none => .fz .raw (.pointer none)
  | .map none => .fz .raw (.map none)
  | .func (.func f) ⟨[]⟩ ⟨[]⟩ => .fn f []
  | _ => .unk
def ofV : Value → AV
  | .agg cs => .agg (cs.toList.map ofV0)
  | .tuple ⟨[]⟩ => .tup []
  | v => ofV0 v
theorem rel_ofV0 (c : Cx) (v : Value) : Rel c (ofV0 v) v := by
  unfold ofV0
  split
  · exact rel_int.2 rfl
  · exact rel_bool.2 rfl
  · exact rel_str.2 rfl
  · exact rel_flt.2 rfl
  · unfold Rel; rfl
  · exact (rel_raw rfl).2 rfl
  · exact (rel_raw rfl).2 rfl
  · exact (rel_raw rfl).2 rfl
  · exact (rel_raw rfl).2 rfl
  · unfold Rel; exact ⟨[], rfl, by unfold RelL; rfl⟩
  · unfold Rel; trivial
theorem rel_ofV (c : Cx) (v : Value) : Rel c (ofV v) v := by
  unfold ofV
  split
  · rename_i cs
    unfold Rel
    refine ⟨cs.toList, by simp, RelL.of_get _ _ (by simp) (fun i a v h1 h2 => ?_)⟩
    simp only [List.getElem?_map, h2, Option.map_some, Option.some.injEq] at h1
    rw [← h1]; exact rel_ofV0 c v
  · unfold Rel; exact ⟨[], rfl, by unfold RelL; rfl⟩
  · exact rel_ofV0 c v
def ev (T : List (Nat × AV)) : Operand → AV
  | .tmp n => lk T n
  | .const v => ofV v
  | .global g => .glob g
  | .func f => .fn f []
/-- the temporaries -/
def TR (c : Cx) (T : List (Nat × AV)) (tmps : Array Value) : Prop := ∀ n, Rel c (lk T n) (tmps.getD n undef)
theorem TR.ev {c : Cx} {T : List (Nat × AV)} {a : Act} (h : TR c T a.tmps) (x : Operand) : Rel c (Ab.ev T x) (a.eval x) := by
  cases x with
  | tmp n => exact h n
  | const v => exact rel_ofV c v
  | global g => unfold Ab.ev Act.eval Rel; rfl
  | func f => unfold Ab.ev Act.eval Rel; exact ⟨[], rfl, by unfold RelL; rfl⟩
theorem TR.put {c : Cx} {T : List (Nat × AV)} {tmps : Array Value} (h : TR c T tmps) {d : Nat} {av : AV} {v : Value} (hd : d < tmps.size) (hv : Rel c av v) : TR c ((d, av) :: T) (tmps.setIfInBounds d v) := by
  intro n
  unfold lk
  by_cases hn : d = n
  · subst hn; rw [if_pos rfl]; simpa [Array.getD, hd] using hv
  · rw [if_neg hn]
    have : (tmps.setIfInBounds d v).getD n undef = tmps.getD n undef := by simp [Array.getD_eq_getD_getElem?, hn]
    rw [this]; exact h n
/-! ### the operations -/
/-- what must be so; what comes -/
abbrev AR := Option Prop × AV
@[reducible] def Hold : Option Prop → Prop
  | none => True
  | some p => p
def yes (v : AV) : AR := (none, v)
def no : AR := (some False, .unk)
def gate (b : Bool) (x : AR) : AR := match b with
  | true => x
  | false => no
theorem gate_of {b : Bool} {x : AR} (h : Hold (gate b x).1) : b = true ∧ Hold x.1 := by
  cases b
  · exact False.elim h
  · exact ⟨rfl, h⟩
theorem gate_true {b : Bool} {x : AR} (h : b = true) : gate b x = x := by subst h; rfl
def andC : Option Prop → Option Prop → Option Prop
  | none, q => q
  | p, none => p
  | some p, some q => some (p ∧ q)
theorem andC_of {p q : Option Prop} (h : Hold (andC p q)) : Hold p ∧ Hold q := by
  cases p <;> cases q
  · exact ⟨trivial, trivial⟩
  · exact ⟨trivial, h⟩
  · exact ⟨h, trivial⟩
  · exact h
def impC (b : Bool) : Option Prop → Option Prop
  | none => none
  | some p => some (b = true → p)
theorem impC_of {b : Bool} {p : Option Prop} (h : Hold (impC b p)) (hb : b = true) : Hold p := by
  cases p
  · trivial
  · exact h hb
def aPart (ag : Option Bool) (off sz : Nat) : AV → AR
  | .agg vs => match ag with
    | some true => gate (Nat.blt 0 sz) (none, .agg ((vs.drop off).take sz))
    | some false => gate (Nat.blt 0 sz && Nat.blt off vs.length) (none, vs.getD off .unk)
    | none => no
  | .fz t x => match ag with
    | some b => match t.sub x b off sz with
      | some ⟨u, y⟩ => gate (Nat.blt 0 sz && t.isAgg) (none, .fz u y)
      | none => no
    | none => no
  | _ => no
def aField (D : Tab) (t : TypeId) (f : Nat) (x : AV) : AR :=
  match tfld D t f with
  | some (off, ft) => aPart (tagg D ft) off (tsz D ft) x
  | none => no
def stripO (g : Bool) : AV → AR
  | .opt h v => (some (g = true → h = true), v)
  | v => (none, v)
def iteAV (c : Bool) : AV → AV → AV
  | .fz .bool x, .fz .bool y => .fz .bool (bif c then x else y)
  | .fz (.int .i64) x, .fz (.int .i64) y => .fz (.int .i64) (bif c then x else y)
  | a, b => bif c then a else b
def pickAV (c : Bool) (a b : AR) : AR := match a.2, b.2 with
  | .unk, y => (andC (some (c = false)) b.1, y)
  | x, .unk => (andC (some (c = true)) a.1, x)
  | x, y => (andC a.1 b.1, iteAV c x y)
def aPick (c a b : AV) : AR :=
  match c with
  | .fz .bool c => pickAV c (stripO c a) (stripO (!c) b)
  | _ => no
/-- fits an int -/
def I64 (n : Int) : Prop := -9223372036854775808 ≤ n ∧ n ≤ 9223372036854775807
theorem I64.wrap {n : Int} (h : I64 n) : IntKind.i64.wrap n = n := by
  unfold I64 at h
  unfold IntKind.wrap
  simp [IntKind.bits, IntKind.signed, IntKind.max]
  omega
def arI (k : IntKind) (n : Int) : AR := match k with
  | .i64 => (some (I64 n), .fz (.int .i64) n)
  | k => (none, .fz (.int k) (k.wrap n))
def kEq : IntKind → IntKind → Bool
  | .i8, .i8 => true | .i16, .i16 => true | .i32, .i32 => true | .i64, .i64 => true
  | .u8, .u8 => true | .u16, .u16 => true | .u32, .u32 => true | .u64, .u64 => true
  | _, _ => false
theorem kEq_of {a b : IntKind} (h : kEq a b = true) : a = b := by cases a <;> cases b <;> first | rfl | cases h
def aBinI (op : BinOp) (k k' : IntKind) (a b : Int) : AR := match op with
  | .add => gate (kEq k k') (arI k (a + b))
  | .sub => gate (kEq k k') (arI k (a - b))
  | .mul => gate (kEq k k') (arI k (a * b))
  | .quo => gate (kEq k k') (andC (some (b ≠ 0)) (arI k (a.tdiv b)).1, (arI k (a.tdiv b)).2)
  | .rem => gate (kEq k k') (some (b ≠ 0), .fz (.int k) (a.tmod b))
  | .eql => gate (kEq k k') (none, .fz .bool (a == b))
  | .neq => gate (kEq k k') (none, .fz .bool (a != b))
  | .lss => gate (kEq k k') (none, .fz .bool (decide (a < b)))
  | .leq => gate (kEq k k') (none, .fz .bool (decide (a ≤ b)))
  | .gtr => gate (kEq k k') (none, .fz .bool (decide (b < a)))
  | .geq => gate (kEq k k') (none, .fz .bool (decide (b ≤ a)))
  | .shl => (some (0 ≤ b), .fz (.int k) (k.wrap (a * 2 ^ (min b.toNat k.bits))))
  | .shr => (some (0 ≤ b), .fz (.int k) (a.fdiv (2 ^ (min b.toNat k.bits))))
  | _ => no
def aBinS (op : BinOp) (a b : ByteArray) : AR := match op with
  | .add => (some (((a.size + b.size : Nat) : Int) ≤ IntKind.i64.max), .fz .str (a ++ b))
  | .eql => (none, .fz .bool (a.toList == b.toList))
  | .neq => (none, .fz .bool (!(a.toList == b.toList)))
  | .lss => (none, .fz .bool (Op.bytesLess a.toList b.toList))
  | .leq => (none, .fz .bool (Op.bytesLess a.toList b.toList || a.toList == b.toList))
  | .gtr => (none, .fz .bool (!(Op.bytesLess a.toList b.toList || a.toList == b.toList)))
  | .geq => (none, .fz .bool (!(Op.bytesLess a.toList b.toList)))
  | _ => no
def aBinB (D : Tab) (op : BinOp) (t : TypeId) (a b : Bool) : AR := match op with
  | .eql => gate (tbool D t) (none, .fz .bool (a == b))
  | .neq => gate (tbool D t) (none, .fz .bool (!(a == b)))
  | _ => no
/-- is it nil? -/
def isNil : AV → Option Bool
  | .fz .raw .nilIface => some true
  | .fz .raw (.iface _ _) => some false
  | .ifc _ _ => some false
  | _ => none
def aBin (D : Tab) (op : BinOp) (t : TypeId) (x y : AV) : AR :=
  match x, y with
  | .fz (.int k) a, .fz (.int k') b => aBinI op k k' a b
  | .fz .str a, .fz .str b => aBinS op a b
  | .fz .bool a, .fz .bool b => aBinB D op t a b
  | _, _ => no
def aBinNil (D : Tab) (op : BinOp) (t : TypeId) (x : AV) : AR :=
  match isNil x, op with
  | some b, .eql => gate (tiface D t) (none, .fz .bool b)
  | some b, .neq => gate (tiface D t) (none, .fz .bool (!b))
  | _, _ => no
def isNilC : Operand → Bool
  | .const .nilIface => true
  | _ => false
theorem aPart_sound {P : Program} {D : Tab} (hD : TabOk P D) {c : Cx} {t : TypeId} {off : Nat} {x : AV} {cs : Array Value} (hx : Rel c x (.agg cs)) (h : Hold (aPart (tagg D t) off (tsz D t) x).1) :
    ∃ v, (part t cs off).run P c.w = .ok v c.w ∧ Rel c (aPart (tagg D t) off (tsz D t) x).2 v := by
  generalize hsz : tsz D t = sz at *
  generalize hag : tagg D t = ag at *
  cases x <;> try exact False.elim h
  · rename_i u x
    unfold aPart at *
    cases ag with
    | none => exact False.elim h
    | some b =>
      simp only at h ⊢
      cases hs : u.sub x b off sz with
      | none => rw [hs] at h; exact False.elim h
      | some uy =>
        obtain ⟨u', y⟩ := uy
        rw [hs] at h
        simp only at h ⊢
        obtain ⟨hb, _⟩ := gate_of h
        rw [gate_true hb]
        simp only [Bool.and_eq_true] at hb
        obtain ⟨hz, hu⟩ := hb
        have hz := blt_of hz
        obtain ⟨cs', hcs, hf⟩ := rel_agg hu hx
        cases hcs
        obtain ⟨k1, k2, k3⟩ := sub_sound u x cs' b off sz u' y hf hs
        have hr := rel_fz_mk k3
        cases b with
        | true =>
          refine ⟨.agg (cs'.toArray.extract off (off + sz)), by simp [part, run_isAgg hD hag, run_sizeOf hD hsz hz], ?_⟩
          have : valOf u' ((cs'.drop off).take sz) = .agg (cs'.toArray.extract off (off + sz)) := by
            unfold valOf; rw [if_pos k2]; simp
          rw [← this]; exact hr
        | false =>
          have hl := k3.len
          have h1 : u'.size = 1 := by cases u' <;> first | rfl | (cases k2)
          have hlt : off < cs'.length := by simp at hl; omega
          refine ⟨cs'[off], by simp [part, run_isAgg hD hag, hlt], ?_⟩
          have : valOf u' ((cs'.drop off).take sz) = cs'[off] := by
            unfold valOf; rw [if_neg (by simp [k2])]
            rw [List.drop_eq_getElem_cons hlt]
            cases sz with
            | zero => omega
            | succ n => rfl
          rw [← this]; exact hr
  · rename_i vs
    unfold aPart at *
    unfold Rel at hx
    obtain ⟨us, hus, hr⟩ := hx
    cases hus
    cases ag with
    | none => exact False.elim h
    | some b =>
      cases b with
      | true =>
        simp only at h ⊢
        obtain ⟨hb, _⟩ := gate_of h
        rw [gate_true hb]
        refine ⟨.agg (us.toArray.extract off (off + sz)), by simp [part, run_isAgg hD hag, run_sizeOf hD hsz (blt_of hb)], ?_⟩
        unfold Rel
        refine ⟨(us.drop off).take sz, by simp, RelL.of_get _ _ (by simp [hr.length]) (fun i a v h1 h2 => ?_)⟩
        rw [List.getElem?_take, List.getElem?_drop] at h1 h2
        split at h1
        · rename_i hi
          rw [if_pos hi] at h2
          obtain ⟨v', e1, e2⟩ := hr.get _ _ _ _ h1
          rw [e1] at h2; cases h2; exact e2
        · cases h1
      | false =>
        simp only at h ⊢
        obtain ⟨hb, _⟩ := gate_of h
        rw [gate_true hb]
        simp only [Bool.and_eq_true] at hb
        have hlt := blt_of hb.2
        obtain ⟨v, e1, e2⟩ := hr.get _ _ off (vs[off]) (List.getElem?_eq_getElem hlt)
        refine ⟨v, by simp [part, run_isAgg hD hag, e1], ?_⟩
        simpa [List.getD, hlt] using e2
end Go.Ab
