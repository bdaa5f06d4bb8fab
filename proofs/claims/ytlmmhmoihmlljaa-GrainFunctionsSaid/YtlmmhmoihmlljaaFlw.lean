/-
  Laws of the walk for float64 operations whose answer may be a NaN, over any program.
-/
import Derived.Test.YtlmmhmoihmlljaaFl
import Derived.WalkKit
import Derived.WalkLawsBesides
import Derived.WalkSpells
import Derived.BigQuiet
import Derived.Deep.QuietTactic
import Derived.Lib.Hide
/-! the walk over float64 operations whose answer may be a NaN -/
namespace Fl
open Go Ieee
section
variable {P : Program}

theorem word_double (neg : Bool) {rung : Nat} (h : rung < 2 ^ 63) : double.word neg rung % 2 ^ 63 = rung ∧ (double.word neg rung / 2 ^ 63 % 2 == 1) = neg := by
  have hsw : double.signWeight = 2 ^ 63 := by decide +kernel
  unfold Format.word; rw [hsw]
  cases neg
  · simp; omega
  · simp; omega
theorem isNaN_iff (b : Nat) : isNaN b = true ↔ 2047 * 2 ^ 52 < b % 2 ^ 63 := by
  have hinf : double.infRung = 2047 * 2 ^ 52 := by decide +kernel
  have hsw : double.signWeight = 2 ^ 63 := by decide +kernel
  have hbin : double.binade = 2 ^ 52 := by decide +kernel
  unfold isNaN Format.read
  simp only [hinf, hsw, hbin]
  split
  · simp [Datum.isNaN]; omega
  · split
    · simp [Datum.isNaN]; omega
    · split
      · simp [Datum.isNaN]; omega
      · simp [Datum.isNaN]; omega
theorem cut_isNaN (x y t : Nat) : isNaN (Question.cut (.nanBits .f64 x y) t) = true := by
  rw [isNaN_iff]
  simp only [Question.cut]
  have h1 : t / 2 % (2 ^ 52 - 1) < 2 ^ 52 - 1 := Nat.mod_lt _ (by omega)
  generalize t / 2 % (2 ^ 52 - 1) = q at *
  omega

/-- '+', '-', '*', '/' on any two floats. -/
theorem run_arith {op : BinOp} (hop : op = .add ∨ op = .sub ∨ op = .mul ∨ op = .quo) (t : TypeId) (x y : Nat) (w : World) :
    ∃ r n, (binOp op t (.float .f64 x) (.float .f64 y)).run P w = .ok (.float .f64 r) (w.drewN n) ∧ Got (floatBits op .f64 x y) r := by
  cases ho : floatBits op .f64 x y with
  | some v => exact ⟨v, 0, run_float_arith w op t .f64 x y v ho, rfl⟩
  | none =>
    refine ⟨Question.cut (.nanBits .f64 x y) (w.tape w.drawn (.nanBits .f64 x y)), 1, ?_, cut_isNaN x y _⟩
    unfold floatBits at ho
    rcases hop with rfl | rfl | rfl | rfl <;> simp only at ho <;> simp [binOp, Op.floatArith, ho, Question.forced, World.drew_is_drewN]

/-- the same as an equation -/
def opR (op : BinOp) (x y : Nat) (w : World) : Nat := (floatBits op .f64 x y).getD (Question.cut (.nanBits .f64 x y) (w.tape w.drawn (.nanBits .f64 x y)))
def opN (op : BinOp) (x y : Nat) : Nat := if (floatBits op .f64 x y).isSome then 0 else 1
theorem run_op {op : BinOp} (hop : op = .add ∨ op = .sub ∨ op = .mul ∨ op = .quo) (t : TypeId) (x y : Nat) (w : World) :
    (binOp op t (.float .f64 x) (.float .f64 y)).run P w = .ok (.float .f64 (opR op x y w)) (w.drewN (opN op x y)) := by
  unfold opR opN
  cases ho : floatBits op .f64 x y with
  | some v => exact run_float_arith w op t .f64 x y v ho
  | none =>
    unfold floatBits at ho
    rcases hop with rfl | rfl | rfl | rfl <;> simp only at ho <;> simp [binOp, Op.floatArith, ho, Question.forced, World.drew_is_drewN]
theorem opR_got (op : BinOp) (x y : Nat) (w : World) : Got (floatBits op .f64 x y) (opR op x y w) := by
  unfold opR
  cases floatBits op .f64 x y with
  | some v => rfl
  | none => exact cut_isNaN x y _

theorem run_sqrt (x : Nat) (w : World) : ∃ r n, (Extern.MathSqrt.sqrt #[.float .f64 x]).run P w = .ok (.float .f64 r) (w.drewN n) ∧ Got (double.sqrt x) r := by
  change ∃ r n, Sem.run P (match double.sqrt x with | some r => (pure (Value.float .f64 r) : Sem Value) | none => do pure (Value.float .f64 (← choose (.nanBits .f64 x x)))) w = .ok (.float .f64 r) (w.drewN n) ∧ Got (double.sqrt x) r
  cases ho : double.sqrt x with
  | some v => exact ⟨v, 0, rfl, rfl⟩
  | none =>
    refine ⟨Question.cut (.nanBits .f64 x x) (w.tape w.drawn (.nanBits .f64 x x)), 1, ?_, cut_isNaN x x _⟩
    simp [Question.forced, World.drew_is_drewN]

/-- the walk's law: an operation's answer is any that 'Got' lets. -/
theorem wpList_fl {ops : Array Oper} {rest : List Oper} {o : Oper} {a : Act} {Q : Exit → Act → World → Prop} {w : World} (hg : o.guard = none) {op : BinOp} {t ty : TypeId} {x y : Operand}
    (ho : o.op = .binOp op t x y ty) (hop : op = .add ∨ op = .sub ∨ op = .mul ∨ op = .quo) {bx by_ : Nat} (hx : a.eval x = .float .f64 bx) (hy : a.eval y = .float .f64 by_)
    (h : ∀ r n, Got (floatBits op .f64 bx by_) r → wpList P ops Q rest (a.put o.dst (.float .f64 r)) (w.drewN n)) : wpList P ops Q (o :: rest) a w := by
  refine wpList_plain hg fun K hK => ?_
  obtain ⟨r, n, hrun, hr⟩ := run_arith (P := P) hop t bx by_ w
  unfold Oper.wp
  simp only [execOp, ho, hx, hy]
  have hk := hK _ _ (h r n hr)
  have he : ∀ w : World, (eqGuard op t x y (.float .f64 bx) (.float .f64 by_)).run P w = .ok () w := by
    intro w; rcases hop with rfl | rfl | rfl | rfl <;> rfl
  simpa [he, hrun, Result.andThen, Oper.upon] using hk

theorem run_store_float (P : Program) (w : World) (a : Addr) (m : Mode) (k : FloatKind) (b : Nat) : (store a (.float k b) m).run P w = stored P w a (.float k b) m := run_store P w a _ m rfl
theorem run_neg_float (P : Program) (w : World) (b : Nat) : (Op.unary .neg (.float .f64 b)).run P w = .ok (.float .f64 (neg b)) w := rfl
def fin (x : Nat) : Bool := match double.read x with | .number .. => true | _ => false
theorem order_self {x : Nat} (h : isNaN x = false) : FloatKind.f64.format.order x x = some .eq := by
  change (double.read x).order (double.read x) = _
  unfold isNaN at h
  cases hd : double.read x with
  | nan s f => rw [hd] at h; simp [Datum.isNaN] at h
  | infinity s => simp [Datum.order]
  | number s m e => simp [Datum.order]
theorem order_none_l {x : Nat} (y : Nat) (h : isNaN x = true) : FloatKind.f64.format.order x y = none := order_nan_l y h
theorem order_none_r (x : Nat) {y : Nat} (h : isNaN y = true) : FloatKind.f64.format.order x y = none := order_nan_r x h
theorem got_fin {x r : Nat} (h : Got (floatBits .sub .f64 x x) r) : (FloatKind.f64.format.order r 0 == some .eq) = fin x := by
  change Got (double.sub x x) r at h
  unfold fin
  unfold Format.sub at h
  cases hd : double.read x with
  | nan s f =>
    rw [hd] at h
    rw [order_none_l 0 h]; rfl
  | infinity s =>
    rw [hd] at h
    have : isNaN r = true := by cases s <;> exact h
    rw [order_none_l 0 this]; rfl
  | number s m e =>
    rw [hd] at h
    have h0 : Datum.sum (.number s m e) (Datum.number s m e).opposite = some (.number false 0 e) := by
      simp only [Datum.opposite, Datum.sum, Int.min_self, Int.sub_self, Int.toNat_zero]
      have : signed s m 0 + signed (!s) m 0 = 0 := by unfold signed; cases s <;> simp <;> omega
      rw [this]; cases s <;> rfl
    rw [h0] at h
    have hr : r = 0 := h
    rw [hr]; show (FloatKind.f64.format.order 0 0 == some .eq) = true; decide +kernel
end
end Fl
