/-
  What a machine has drawn never falls: so a call that comes back has drawn no less.
-/
import Derived.Test.YtcfalmdfohphoaaDoorM9
import Derived.Calls
import Derived.Shelf.SlSortCmp.Whole1
namespace Go.Ab
open Go
def resW {α : Type} : Result α → World
  | .ok _ w => w
  | .halt _ w => w
theorem ask_ge {α : Type} : ∀ (a : Ask α) (w : World), w.drawn ≤ (w.ask a).2.drawn := by
  intro a
  induction a with
  | done a => intro w; exact Nat.le_refl _
  | ask what range k ih =>
    intro w
    unfold World.ask
    simp only
    split
    · exact ih 0 w
    · exact Nat.le_trans (Nat.le_succ _) (ih _ { w with drawn := w.drawn + 1 })
theorem sys_ge (c : Sys) (w : World) : w.drawn ≤ (w.sys c).2.drawn := by
  have h := ask_ge (Kernel.perform c w.os) w
  unfold World.sys
  split
  · exact Nat.le_refl _
  · rename_i h2; rw [h2] at h; exact h
theorem viewStore_eq {p : Program} {w : World} {at_ : Addr} {u : TypeId} {k : Addr} {v : Value} {b : Bool} {r : World × List Addr} (h : w.viewStore p at_ u k v b = .ok r) : r.1.drawn = w.drawn := by
  unfold World.viewStore at h
  simp only [bind, Except.bind, pure, Except.pure] at h
  repeat' (split at h)
  all_goals first | (cases h; done) | (cases h; rfl)
theorem farStore_eq {p : Program} {w : World} {a : Addr} {v : Value} {b : Bool} {r : World × List Addr} (h : w.farStore p a v b = .ok r) : r.1.drawn = w.drawn := by
  unfold World.farStore at h
  split at h
  · split at h
    · cases h; rename_i h; exact viewStore_eq h
    · cases h
  · cases h
theorem freeze_dr (w : World) (a : Addr) (n : Nat) : (w.freeze a n).drawn = w.drawn := by
  unfold World.freeze; split <;> rfl
theorem run_ge {α : Type} (p : Program) : ∀ (s : Sem α) (w : World), w.drawn ≤ (resW (s.run p w)).drawn := by
  intro s
  induction s with
  | pure a => intro w; exact Nat.le_refl _
  | load m a k ih =>
    intro w; unfold Sem.run; split
    · exact ih _ w
    · split
      · exact ih _ w
      · exact Nat.le_refl _
  | store m a v k ih =>
    intro w
    cases v <;> (unfold Sem.run; first | exact Nat.le_refl _ | skip)
    all_goals (split; · (split; exact Nat.le_refl _; exact ih (w.setCell a _)))
    all_goals (split; · (rename_i h; exact Nat.le_trans (Nat.le_of_eq (farStore_eq h).symm) (ih _)))
    all_goals exact Nat.le_refl _
  | new o k ih => intro w; exact ih w.heap.size { w with heap := w.heap.push o }
  | shape r k ih => intro w; exact ih _ _
  | freeze a n k ih => intro w; exact Nat.le_trans (Nat.le_of_eq (freeze_dr w a n).symm) (ih (w.freeze a n))
  | frozen a k ih => intro w; exact ih _ _
  | getObj r k ih =>
    intro w; unfold Sem.run; split
    · exact Nat.le_refl _
    · exact ih _ w
    · exact Nat.le_refl _
  | setObj r o k ih =>
    intro w; unfold Sem.run; split
    · exact Nat.le_refl _
    · exact ih { w with heap := w.heap.setIfInBounds r o }
    · exact Nat.le_refl _
  | choose q k ih =>
    intro w; unfold Sem.run; split
    · exact ih _ w
    · exact Nat.le_trans (Nat.le_succ _) (ih _ { w with drawn := w.drawn + 1 })
  | sys c k ih => intro w; exact Nat.le_trans (sys_ge c w) (ih _ _)
  | program k ih => intro w; exact ih _ _
  | mark m k ih => intro w; exact ih w
  | halt h => intro w; exact Nat.le_refl _
theorem runT_ge {α : Type} (p : Program) : ∀ (s : Sem α) (w : World) (es : Array Event), w.drawn ≤ (resW (s.runT p w es).1).drawn := by
  intro s
  induction s with
  | pure a => intro w es; exact Nat.le_refl _
  | load m a k ih =>
    intro w es; unfold Sem.runT; split
    · exact ih _ w _
    · split
      · exact ih _ w _
      · exact Nat.le_refl _
  | store m a v k ih =>
    intro w es
    cases v <;> (unfold Sem.runT; first | exact Nat.le_refl _ | skip)
    all_goals (split; · (split; exact Nat.le_refl _; exact ih (w.setCell a _) _))
    all_goals (split; · (rename_i h; exact Nat.le_trans (Nat.le_of_eq (farStore_eq h).symm) (ih _ _)))
    all_goals exact Nat.le_refl _
  | new o k ih => intro w es; exact ih w.heap.size { w with heap := w.heap.push o } es
  | shape r k ih => intro w es; exact ih _ _ _
  | freeze a n k ih => intro w es; exact Nat.le_trans (Nat.le_of_eq (freeze_dr w a n).symm) (ih (w.freeze a n) es)
  | frozen a k ih => intro w es; exact ih _ _ _
  | getObj r k ih =>
    intro w es; unfold Sem.runT; split
    · exact Nat.le_refl _
    · exact ih _ w _
    · exact Nat.le_refl _
  | setObj r o k ih =>
    intro w es; unfold Sem.runT; split
    · exact Nat.le_refl _
    · exact ih { w with heap := w.heap.setIfInBounds r o } _
    · exact Nat.le_refl _
  | choose q k ih =>
    intro w es; unfold Sem.runT; split
    · exact ih _ w _
    · exact Nat.le_trans (Nat.le_succ _) (ih _ { w with drawn := w.drawn + 1 } _)
  | sys c k ih => intro w es; exact Nat.le_trans (sys_ge c w) (ih _ _ _)
  | program k ih => intro w es; exact ih _ _ _
  | mark m k ih => intro w es; exact ih w _
  | halt h => intro w es; exact Nat.le_refl _
theorem run_ok {α : Type} {p : Program} {s : Sem α} {w w' : World} {a : α} (h : s.run p w = .ok a w') : w.drawn ≤ w'.drawn := by
  have := run_ge p s w; rw [h] at this; exact this
theorem run_halt {α : Type} {p : Program} {s : Sem α} {w w' : World} {a : Halt} (h : s.run p w = .halt a w') : w.drawn ≤ w'.drawn := by
  have := run_ge p s w; rw [h] at this; exact this
theorem runT_is {α : Type} {p : Program} {s : Sem α} {w : World} {es es' : Array Event} {r : Result α} (h : s.runT p w es = (r, es')) : w.drawn ≤ (resW r).drawn := by
  have := runT_ge p s w es; rw [h] at this; exact this
def gOk (d : Nat) : GStep → Prop
  | .go _ w _ => d ≤ w.drawn
  | .comm _ _ _ _ w _ => d ≤ w.drawn
  | .spawn _ _ w _ => d ≤ w.drawn
  | .count _ w _ => d ≤ w.drawn
  | .timer _ _ w _ => d ≤ w.drawn
  | .alone _ _ w _ => d ≤ w.drawn
  | .newcoro _ _ _ w _ => d ≤ w.drawn
  | .coroswitch _ _ _ w _ => d ≤ w.drawn
  | .collect _ w _ => d ≤ w.drawn
  | .watch _ w _ => d ≤ w.drawn
  | .ended _ _ _ => True
theorem gOk_after {d : Nat} {es : Array Event} {s : GStep} (h : gOk d s) : gOk d (GStep.after es s) := by cases s <;> exact h
theorem gOk_mono {d d' : Nat} (hd : d ≤ d') {s : GStep} (h : gOk d' s) : gOk d s := by
  cases s <;> first | exact trivial | exact Nat.le_trans hd h
theorem gOk_ite {c : Prop} [Decidable c] {d : Nat} {a b : GStep} (ha : gOk d a) (hb : gOk d b) : gOk d (if c then a else b) := by split; exact ha; exact hb
theorem dieOf_ok (fr : Frame) (a : List ByteArray) (m : String) (b : Bool) (w : World) : gOk w.drawn (dieOf fr a m b w) := Nat.le_refl _
theorem endThrow_ok (fr : Frame) (m : String) (w : World) : gOk w.drawn (endThrow fr m w) := Nat.le_refl _
theorem endWith_ok (w : World) (fd : Nat) (t : ByteArray) (o : Outcome) (d : Nat) : gOk d (endWith w fd t o) := by
  unfold endWith
  simp only
  split <;> (try split) <;> trivial
theorem endPrinting_ok (p : Program) (fr : Frame) (v : Value) (w : World) : gOk w.drawn (endPrinting p fr v w) := by
  unfold endPrinting
  simp only
  split
  · exact endThrow_ok _ _ _
  · trivial
theorem endFatal_ok (p : Program) (fr : Frame) (cs : List Frame) (dy : Option Dying) (m : String) (w : World) : gOk w.drawn (endFatal p fr cs dy m w) := by
  unfold endFatal
  simp only
  split
  · rename_i h
    exact gOk_mono (run_ok h) (dieOf_ok _ _ _ _ _)
  · trivial
  · trivial
theorem writeOn_ok (p : Program) (fr : Frame) (d : Dying) (f : Fatal) (w : World) : gOk w.drawn (writeOn p fr d f w) := by
  unfold writeOn
  simp only
  split
  · trivial
  · split <;> first | trivial | (rename_i h; exact runT_is h)
theorem die_ok (p : Program) (fr : Frame) (d : Dying) (w : World) : gOk w.drawn (die p fr d w) := by
  unfold die
  simp only
  split
  · exact writeOn_ok _ _ _ _ _
  · split
    · split
      · exact Nat.le_refl _
      · exact endWith_ok _ _ _ _ _
    · split
      · exact Nat.le_refl _
      · split
        · rename_i h; exact run_ok h
        · trivial
      · rename_i t recv name _
        generalize hx : Sem.runT p (invoke (.fn (.method name) #[]) #[.iface t recv]) w #[] = x
        obtain ⟨r, es⟩ := x
        have h := runT_is hx
        refine gOk_after ?_
        simp only
        split <;> first | trivial | exact h | exact gOk_mono h (endPrinting_ok _ _ _ _)
      · trivial
theorem doReturn_ok (p : Program) (main : Bool) (fr : Frame) (cs : List Frame) (dy : Option Dying) (v : Value) (w : World) : gOk w.drawn (doReturn p main fr cs dy v w) := by
  unfold doReturn
  simp only
  repeat' split
  all_goals first | trivial | exact Nat.le_refl _
theorem callDeferred_ok (p : Program) (fr : Frame) (cs : List Frame) (dy : Option Dying) (d : Deferred) (w : World) : gOk w.drawn (callDeferred p fr cs dy d w) := by
  unfold callDeferred
  refine gOk_ite trivial ?_
  generalize hx : Sem.runT p (invoke d.target d.args) w #[] = x
  obtain ⟨r, es⟩ := x
  have h := runT_is hx
  refine gOk_after ?_
  split <;> first | trivial | exact h | exact gOk_mono h (endFatal_ok _ _ _ _ _ _) | exact gOk_mono h (endThrow_ok _ _ _) | skip
  all_goals (split <;> first | trivial | exact h)
theorem unwind_ok (p : Program) (main : Bool) (fr : Frame) (cs : List Frame) (dy : Option Dying) (w : World) : gOk w.drawn (unwind p main fr cs dy w) := by
  unfold unwind
  split
  · simp only
    refine gOk_after ?_
    have h := runT_ge p (Instr.takeDeferred ‹Nat›) w #[]
    split
    · rename_i h2; rw [h2] at h; exact h
    · trivial
  · exact callDeferred_ok _ _ _ _ _ _
  · split
    · trivial
    · split
      · trivial
      · split
        · exact Nat.le_refl _
        · split
          · split
            · exact Nat.le_refl _
            · split
              · rename_i h; exact run_ok h
              · trivial
              · trivial
          · split
            · exact endPrinting_ok _ _ _ _
            · trivial
    · split
      · exact doReturn_ok _ _ _ _ _ _ _
      · rename_i fn _
        simp only
        refine gOk_after ?_
        have h := runT_ge p (results fn fr.tmps) w #[]
        split
        · rename_i h2; rw [h2] at h; exact gOk_mono h (doReturn_ok _ _ _ _ _ _ _)
        · trivial
        · trivial
theorem early_ok (p : Program) (fr : Frame) (cs : List Frame) (dy : Option Dying) (g : Nat) (w : World) : gOk w.drawn (early p fr cs dy g w) := by
  unfold early
  simp only
  repeat' split
  all_goals first | trivial | exact Nat.le_refl _ | skip
  · rename_i h _ _ _ _
    have h2 := run_ok h
    exact h2
  · rename_i h
    have h2 := run_ok h
    exact h2
theorem run_is {α : Type} {p : Program} {s : Sem α} {w : World} {r : Result α} (h : s.run p w = r) : w.drawn ≤ (resW r).drawn := by
  have := run_ge p s w; rw [h] at this; exact this
theorem apply_ok (p : Program) (listen : Bool) (fr : Frame) (cs : List Frame) (dy : Option Dying) (s : Sem Next) (w : World) : gOk w.drawn (stepG.apply p listen fr cs dy s w) := by
  obtain ⟨x, hx⟩ : ∃ x, (if listen then s.runT p w #[] else (s.run p w, #[])) = x := ⟨_, rfl⟩
  obtain ⟨r, es⟩ := x
  have h : w.drawn ≤ (resW r).drawn := by
    split at hx
    · exact runT_is hx
    · cases hx; exact run_ge p s w
  unfold stepG.apply
  rw [hx]
  clear hx
  refine gOk_after ?_
  dsimp only
  split <;> first | trivial | exact h | exact gOk_mono h (endFatal_ok _ _ _ _ _ _) | exact gOk_mono h (endThrow_ok _ _ _) | exact gOk_mono h (early_ok _ _ _ _ _ _) | skip
  all_goals first | (refine gOk_mono h (gOk_ite ?_ ?_); exact endThrow_ok _ _ _; exact Nat.le_refl _) | (split <;> first | trivial | exact h)
theorem oper_ok (p : Program) (listen : Bool) (fr : Frame) (cs : List Frame) (dy : Option Dying) (w : World) : gOk w.drawn (stepG.oper p listen fr cs dy w) := by
  unfold stepG.oper
  split
  · trivial
  · split <;> exact apply_ok _ _ _ _ _ _ _
theorem exec_ok (p : Program) (main listen : Bool) (fr : Frame) (cs : List Frame) (dy : Option Dying) (w : World) : gOk w.drawn (stepG.exec p main listen fr cs dy w) := by
  have hround : ∀ (l : Nat) (jump : Option Code), gOk w.drawn (match Sem.runT p (Instr.endRound l jump) w #[] with
      | (r, es) => GStep.after (seen p fr.fn es) (match r with
        | .ok v w => doReturn p main fr cs dy v w
        | .halt _ w => .ended (.stuck "range over a function: no such loop" (fr.pos p)) w)) := by
    intro l jump
    generalize hx : Sem.runT p (Instr.endRound l jump) w #[] = x
    obtain ⟨r, es⟩ := x
    have h := runT_is hx
    refine gOk_after ?_
    split
    · exact gOk_mono h (doReturn_ok _ _ _ _ _ _ _)
    · trivial
  unfold stepG.exec
  dsimp only
  split
  case h_1 =>
    split
    · exact Nat.le_refl _
    · exact hround _ _
  case h_2 =>
    split
    · exact Nat.le_refl _
    · exact hround _ _
  all_goals first | exact Nat.le_refl _ | trivial | exact apply_ok _ _ _ _ _ _ _ | skip
  · split
    · exact Nat.le_refl _
    · trivial
  · rename_i id k _
    cases exitTo id k with
    | some t => exact Nat.le_refl _
    | none =>
      show gOk w.drawn (match fr.roundOf with | none => _ | some l => _)
      split
      · trivial
      · exact hround _ _
  · rename_i id k _
    cases gotoIn id k with
    | some t => exact Nat.le_refl _
    | none =>
      show gOk w.drawn (match fr.roundOf with | none => _ | some l => _)
      split
      · trivial
      · exact hround _ _
  · rename_i f params assign body k _
    have h := runT_ge p (Instr.enterLoop fr.fn fr.tmps params assign body fr.roundOf) w #[]
    refine gOk_after ?_
    generalize (Sem.runT p (Instr.enterLoop fr.fn fr.tmps params assign body fr.roundOf) w #[]).fst = r at h
    split
    · exact gOk_mono h (apply_ok _ _ _ _ _ _ _)
    · trivial
  · rename_i l k _
    have h := runT_ge p (Instr.endLoop l) w #[]
    refine gOk_after ?_
    generalize (Sem.runT p (Instr.endLoop l) w #[]).fst = r at h
    split
    · exact h
    · exact h
    · trivial
  · rename_i row args tail _
    cases Extern.next row with
    | none => trivial
    | some e => exact apply_ok _ _ _ _ _ _ _
  · rename_i id ops draw k _
    split
    · exact Nat.le_refl _
    · split
      · rename_i h
        have h2 := run_ok h
        exact h2
      · trivial
  · split
    · exact oper_ok _ _ _ _ _ _
    · exact Nat.le_refl _
theorem stepG_ok (p : Program) (main listen : Bool) (g : Goroutine) (w : World) : gOk w.drawn (stepG p main g w listen) := by
  unfold stepG
  dsimp only
  split
  · exact die_ok _ _ _ _
  · exact exec_ok _ _ _ _ _ _ _
  · exact unwind_ok _ _ _ _ _ _
def sOk (d : Nat) : Stepped → Prop
  | .next m => d ≤ m.world.drawn
  | .ended _ _ => True
theorem sOk_mono {d d' : Nat} (hd : d ≤ d') {s : Stepped} (h : sOk d' s) : sOk d s := by
  cases s <;> first | exact trivial | exact Nat.le_trans hd h
theorem waitingAt_eq {rest : Rest} {cases : Array CommCase} {w w' : World} (h : waitingAt rest cases w = some w') : w'.drawn = w.drawn := by
  unfold waitingAt at h
  split at h
  · split at h
    · cases h; rfl
    · cases h
  · cases h; rfl
theorem communicate_ok (p : Program) (rest : Rest) (gs : Array Goroutine) (i : Nat) (g : Goroutine) (cases : Array CommCase) (b : Bool) (sh : CommShape) (w : World) : sOk w.drawn (communicate p rest gs i g cases b sh w).1 := by
  unfold communicate
  dsimp only
  split
  · trivial
  · split
    · split
      · split
        · rename_i h; exact Nat.le_of_eq (waitingAt_eq h).symm
        · trivial
      · exact Nat.le_refl _
    · split
      · trivial
      · rename_i h0
        have h := run_ok h0
        clear h0
        split
        · split
          · rename_i h2; exact Nat.le_trans h (run_halt h2)
          · trivial
        · exact h
        · exact h
        · split
          · exact h
          · split
            · rename_i h2; have h2 := run_ok h2; exact Nat.le_trans h h2
            · trivial
        · exact h
        · exact h
        · trivial
theorem look_ok (p : Program) (gs : Array Goroutine) (rest : Rest) (w : World) : sOk w.drawn (look p gs rest w) := by
  unfold look
  dsimp only
  split
  · split
    · trivial
    · split
      · trivial
      · split
        · rename_i h; have h := run_ok h; exact h
        · trivial
        · trivial
  · trivial
theorem serve_ok (p : Program) (m : Machine) (k : Nat) : sOk m.world.drawn (serve p m k) := by
  unfold serve
  dsimp only
  split
  · trivial
  · exact Nat.le_refl _
  · split
    · trivial
    · exact Nat.le_refl _
theorem drain_eq (w : World) (c : Nat) : (drain w c).2.drawn = w.drawn := by
  unfold drain; split <;> rfl
theorem retime_eq (m : Machine) (k : Nat) (t : Timer) (a b : Nat) : (retime m k t a b).2.world.drawn = m.world.drawn := by
  unfold retime
  dsimp only
  split
  · exact drain_eq _ _
  · rfl
theorem named_eq {m m' : Machine} {a : Addr} {f : Nat → Timer → Value × Machine} {v : Value} {d : Nat} (hf : ∀ k t, (f k t).2.world.drawn = d) (h : timerOp.named m a f = .ok (v, m')) : m'.world.drawn = d := by
  unfold timerOp.named at h
  split at h
  · have h := Except.ok.inj h
    have := hf ‹Nat› (m.rest.timers.getD ‹Nat› default)
    rw [h] at this; exact this
  · cases h
theorem opened_eq {m m' : Machine} {a : Addr} (h : timerOp.opened m a = some m') : m'.world.drawn = m.world.drawn := by
  unfold timerOp.opened at h
  split at h
  · split at h
    · cases h; rfl
    · cases h
  · cases h; rfl
theorem timerOp_eq {m m' : Machine} {op : TimerOp} {v : Value} (h : timerOp m op = .ok (v, m')) : m'.world.drawn = m.world.drawn := by
  unfold timerOp at h
  split at h
  · split at h
    · cases h; rfl
    · split at h
      · split at h
        · cases h
        · cases h; rfl
      · cases h
  · exact named_eq (fun k t => retime_eq _ _ _ _ _) h
  · split at h
    · rename_i h2
      exact (named_eq (fun k t => retime_eq _ _ _ _ _) h).trans (opened_eq h2)
    · cases h
  · cases h; rfl
theorem advance_eq (m : Machine) (t : Nat) : (m.advanceTo t).world.drawn = m.world.drawn := rfl
theorem runT_m_ok (p : Program) (m : Machine) (i : Nat) (l : Bool) : sOk m.world.drawn (Go.runT p m i l).1 := by
  unfold Go.runT
  have h := stepG_ok p (i == 0) l (m.gs.swapAt! i { (default : Goroutine) with status := .finished }).1 m.world
  dsimp only
  generalize stepG p (i == 0) (m.gs.swapAt! i { (default : Goroutine) with status := .finished }).1 m.world l = s at h ⊢
  cases s with
  | ended o w es => trivial
  | comm g cases b sh w es => exact sOk_mono h (communicate_ok _ _ _ _ _ _ _ _ _)
  | go g w es => exact h
  | spawn g c w es => exact h
  | count g w es => dsimp only; split; trivial; exact h
  | alone g on w es => exact h
  | collect g w es => exact sOk_mono h (look_ok _ _ _ _)
  | watch g w es => exact h
  | newcoro g c d w es => exact h
  | coroswitch g c e w es =>
    dsimp only
    split
    · exact h
    · exact h
    · trivial
  | timer g op w es =>
    dsimp only
    split
    · rename_i h2
      exact Nat.le_trans h (Nat.le_of_eq (timerOp_eq h2).symm)
    · exact h
    · trivial
    · trivial
def mOk (d : Nat) : Move → Prop
  | .goroutine m _ => d ≤ m.world.drawn
  | .machine s _ => sOk d s
theorem mOk_mono {d d' : Nat} (hd : d ≤ d') {s : Move} (h : mOk d' s) : mOk d s := by
  cases s
  · exact Nat.le_trans hd h
  · exact sOk_mono hd h
theorem askOn_ok (p : Program) (m : Machine) : mOk m.world.drawn (askOn p m) := by
  unfold askOn
  dsimp only
  have hpick : ∀ m' : Machine, m'.world.drawn = m.world.drawn ∨ m.world.drawn ≤ m'.world.drawn → mOk m.world.drawn (match (choose (.sched (runnable m.gs m.world.os.mono).length)).run p m'.world with
      | .halt _ w => Move.machine (.ended (.stuck "sched" "") w)
      | .ok k world =>
        if (runnable m.gs m.world.os.mono).length ≤ 1 then Move.goroutine { m' with world } ((runnable m.gs m.world.os.mono).getD k 0) else
        match (choose (.extern "sched.slice" 65536)).run p world with
        | .halt _ w => .machine (.ended (.stuck "sched.slice" "") w)
        | .ok n world => .goroutine { m' with world, rest := { m'.rest with slice := if n = 0 then none else some ((runnable m.gs m.world.os.mono).getD k 0, n) } } ((runnable m.gs m.world.os.mono).getD k 0)) := by
    intro m' hm
    have hm : m.world.drawn ≤ m'.world.drawn := by omega
    split
    · trivial
    · rename_i h0
      have h := run_ok h0
      clear h0
      split
      · exact Nat.le_trans hm h
      · split
        · trivial
        · rename_i h0
          have h2 := run_ok h0
          exact Nat.le_trans hm (Nat.le_trans h h2)
  split
  · trivial
  · rename_i k w1 h0
    have h := run_ok h0
    clear h0
    split
    · exact sOk_mono h (serve_ok _ _ _)
    · split
      · split
        · exact h
        · split
          · exact h
          · split <;> trivial
      · split
        · exact hpick { m with world := w1 } (.inr h)
        · split
          · trivial
          · rename_i w2 h0
            have h2 := run_ok h0
            exact hpick { m with world := w2 } (.inr (Nat.le_trans h h2))
          · rename_i h0
            have h2 := run_ok h0
            exact Nat.le_trans h h2
          · rename_i t _ _ k2 w2 h0
            have h2 := run_ok h0
            exact hpick (({ m with world := w2 } : Machine).advanceTo (t - (k2 + 1))) (.inr (Nat.le_trans h h2))
theorem ask_ok (p : Program) (m : Machine) : mOk m.world.drawn (ask p m) := by
  unfold ask
  split
  · split
    · trivial
    · rename_i h0
      have h := run_ok h0
      clear h0
      have hl := look_ok p m.gs m.rest ‹World›
      split
      · rename_i m1 h1
        rw [h1] at hl
        exact mOk_mono (Nat.le_trans h hl) (askOn_ok _ _)
      · exact sOk_mono h hl
    · rename_i h0
      have h := run_ok h0
      exact mOk_mono h (askOn_ok _ _)
  · exact askOn_ok _ _
theorem move_ok (p : Program) (m : Machine) : mOk m.world.drawn (move p m) := by
  unfold move
  dsimp only
  split
  · split
    · exact Nat.le_refl _
    · trivial
  · split
    · split
      · exact Nat.le_refl _
      · exact ask_ok _ _
    · exact ask_ok _ _
theorem step_ok (p : Program) (m : Machine) : sOk m.world.drawn (step p m) := by
  unfold step stepT
  have h := move_ok p m
  split
  · rename_i h0; rw [h0] at h; exact sOk_mono h (runT_m_ok _ _ _ _)
  · rename_i h0; rw [h0] at h; exact h
theorem steps_ok {p : Program} {m m' : Machine} (h : Steps p m m') : m.world.drawn ≤ m'.world.drawn := by
  obtain ⟨n, hn⟩ := h
  induction n generalizing m with
  | zero => cases hn; exact Nat.le_refl _
  | succ n ih =>
    have hs := step_ok p m
    unfold runN at hn
    split at hn
    · rename_i h0; rw [h0] at hs; exact Nat.le_trans hs (ih hn)
    · rename_i h0
      exact absurd hn (h0 m')
/-- a call that comes back has drawn no less -/
theorem calls_drawn {P : Program} {f : FuncId} {args : Array Value} {w : World} {R : Ending → World → Prop} (h : Calls P f args w R) :
    Calls P f args w fun e w' => R e w' ∧ ∀ v, e = .returned v → w.drawn ≤ w'.drawn := by
  intro cs
  obtain ⟨e, w', fr, h1, h2, h3, h4⟩ := h cs
  refine ⟨e, w', fr, ⟨h1, fun v hv => ?_⟩, h2, h3, h4⟩
  subst hv
  exact steps_ok h2
end Go.Ab
/-
  slices.SortFunc over a row of numbers, by the library's contract: what compares need be told at numbers of a kind alone (a subtype).
-/
namespace Go.Ab
open Go Go.Shelf Go.Sort Go.RowKit Go.Proofs
theorem grow_of {W w' : World} (hb : Below W.heap.size W w') (hd : W.drawn ≤ w'.drawn) : ∃ q os, w' = grow (W.drewN q) os := by
  refine ⟨w'.drawn - W.drawn, w'.heap.extract W.heap.size w'.heap.size, ?_⟩
  have hh : w'.heap = W.heap ++ w'.heap.extract W.heap.size w'.heap.size := by
    apply Array.ext_getElem?
    intro k
    rw [Array.getElem?_append]
    split
    · exact hb.block k ‹_›
    · rename_i h
      rw [Array.getElem?_extract]
      split
      · congr 1; omega
      · rw [Array.getElem?_eq_none]; omega
  obtain ⟨h1, h2, h3, _, _⟩ := hb
  cases w' with | mk heap tape drawn os output =>
  simp only at h1 h2 h3 hd hh
  unfold grow World.drewN
  simp only [World.mk.injEq]
  exact ⟨hh, h2, by omega, h1, h3⟩
/-- the row's objects are another's: what is left of a context -/
def Cx.out (c : Cx) (blk : Nat) (W : World) : Cx := ⟨c.ρ, [], fun b => c.X b ∨ b = blk, W, c.G⟩
theorem out_le {c : Cx} {blk : Nat} {o : AO} {W : World} (hA : c.A[0]? = some o) (hl : o.live = true) (hr : c.ρ 0 = some blk) (hW : ∀ b, b < c.w.heap.size → b ≠ blk → W.heap[b]? = c.w.heap[b]?) : Le 0 c (c.out blk W) := by
  refine ⟨fun b hI hb => ?_, fun t ht => absurd ht (Nat.not_lt_zero _), Nat.zero_le _⟩
  have hne : b ≠ blk := fun e => hI.2 0 ⟨o, hA, hl⟩ (by rw [hr, e])
  exact ⟨⟨fun h => h.elim hI.1 hne, fun t ⟨o', h1, _⟩ => by have h1 : ([] : List AO)[t]? = some o' := h1; simp at h1⟩, hW b hb hne⟩
theorem out_hr {c : Cx} (H : HR c) {blk : Nat} {o : AO} {W : World} (hA : c.A[0]? = some o) (hl : o.live = true) (hr : c.ρ 0 = some blk) (hs : c.w.heap.size ≤ W.heap.size) (hW : ∀ b, b < c.w.heap.size → b ≠ blk → W.heap[b]? = c.w.heap[b]?) : HR (c.out blk W) := by
  have hlt := H.lt ⟨o, hA, hl⟩ hr
  refine ⟨fun t b ⟨o', h1, _⟩ => ?_, fun t u b ⟨o', h1, _⟩ => ?_, fun t o' h1 => ?_, fun b hb => ?_, fun g v h => (H.glo g v h).mono (out_le hA hl hr hW).I⟩
  · have h1 : ([] : List AO)[t]? = some o' := h1
    simp at h1
  · have h1 : ([] : List AO)[t]? = some o' := h1
    simp at h1
  · have h1 : ([] : List AO)[t]? = some o' := h1
    simp at h1
  · rcases hb with hb | rfl
    · exact Nat.lt_of_lt_of_le (H.old b hb) hs
    · exact Nat.lt_of_lt_of_le hlt hs
theorem ext_below {c c' : Cx} (hA : c.A = []) (E : Ext c c') : Below c.w.heap.size c.w c'.w := by
  have hb : ∀ k, k < c.w.heap.size → c'.w.heap[k]? = c.w.heap[k]? := fun k hk => by
    by_cases hx : c.X k
    · exact E.far k hx
    · refine (E.le.I k ⟨hx, fun t ht => ?_⟩ hk).2
      obtain ⟨o, h1, _⟩ := ht
      rw [hA] at h1; simp at h1
  refine ⟨E.st.os, E.st.tape, E.st.output, ?_, hb⟩
  rcases Nat.lt_or_ge c'.w.heap.size c.w.heap.size with hlt | hge
  · have := hb c'.w.heap.size hlt
    rw [Array.getElem?_eq_none (Nat.le_refl _), Array.getElem?_eq_getElem hlt] at this
    cases this
  · exact hge
def enc1 {p : Int → Prop} (x : {x : Int // p x}) : Value := .int .i64 x.1
section
variable {P : Program} {ρ : Ren} {G : List (Nat × Value)} {p : Int → Prop} [Inhabited {x : Int // p x}]
theorem cmp_lays1 {c : Cx} (H : HR c) (hG : c.G = G) {o : AO} {blk : Nat} (hA : c.A[0]? = some o) (hl : o.live = true) (hr : c.ρ 0 = some blk)
    {cf : {x : Int // p x} → {x : Int // p x} → Int} {g : Nat} (hg : hasBody P g) {caps : List AV} (hcap : okL 0 caps) (hc : ∀ x y K, K (.fz (.int .i64) (cf x y)) [] → ACall P G g ([.fz (.int .i64) x.1, .fz (.int .i64) y.1] ++ caps) [] K)
    {cb : List Value} (hcb : RelL c caps cb) (n : Nat) : CmpLays1 P g cb.toArray enc1 cf blk 0 n c.w := by
  intro m os dk hs x y
  obtain ⟨W, hW⟩ : ∃ W, W = sortWorld enc1 c.w blk 0 m dk os := ⟨_, rfl⟩
  rw [← hW]
  have hheap : W.heap = (c.w.heap.modify blk (onCells (putCells enc1 0 dk))) ++ os := by rw [hW]; rfl
  have hsz : c.w.heap.size ≤ W.heap.size := by rw [hheap, Array.size_append, Array.size_modify]; omega
  have hsame : ∀ b, b < c.w.heap.size → b ≠ blk → W.heap[b]? = c.w.heap[b]? := fun b hb hne => by
    rw [hheap, Array.getElem?_append, if_pos (by rw [Array.size_modify]; exact hb), Array.getElem?_modify, if_neg (Ne.symm hne)]
  have H1 := out_hr H hA hl hr hsz hsame
  have hv : RelL (c.out blk W) ([.fz (.int .i64) x.1, .fz (.int .i64) y.1] ++ caps) ([enc1 x, enc1 y] ++ cb) := by
    show RelL _ (.fz (.int .i64) x.1 :: .fz (.int .i64) y.1 :: caps) (_ :: _ :: cb)
    unfold RelL
    refine ⟨_, _, rfl, rel_int.2 rfl, ?_⟩
    unfold RelL
    exact ⟨_, _, rfl, rel_int.2 rfl, (RelL.mono (out_le hA hl hr hsame) caps cb hcap hcb)⟩
  have hrun := callsX_body ((hc x y (fun r A' => r = .fz (.int .i64) (cf x y) ∧ A' = []) ⟨rfl, rfl⟩).run (c.out blk W) H1 rfl hG _ hv) hg
  have ha : #[enc1 x, enc1 y] ++ cb.toArray = ([enc1 x, enc1 y] ++ cb).toArray := by simp
  rw [ha]
  refine (calls_drawn hrun).mono fun ev w' ⟨⟨v, c', r, h1, h2, h3, h4, h5, h6, h7⟩, h8⟩ => ?_
  subst h6
  have q2 : v = .int .i64 (cf x y) := rel_int.1 h5
  refine ⟨by rw [h1, q2], ?_⟩
  refine grow_of (W := W) ?_ (h8 v h1)
  rw [← h2]
  exact ext_below (c := c.out blk W) rfl h3
theorem acall_sort1 (L : SlLaysF.n6 P ρ) {cf : {x : Int // p x} → {x : Int // p x} → Int} (hO : SWO (ltOf cf)) {g : Nat} (hg : hasBody P g) (eg : ∀ args w, (callFunc g args).run P w = .ok (.enter g args) w) {caps : List AV} (hcap : okL 0 caps)
    (hc : ∀ x y K, K (.fz (.int .i64) (cf x y)) [] → ACall P G g ([.fz (.int .i64) x.1, .fz (.int .i64) y.1] ++ caps) [] K) {f : FuncId} (hf : ρ.f 6 = f) (hfb : hasBody P f) (xs : List {x : Int // p x}) (n : Nat) (hn : xs.length = n) (hn0 : 0 < n) (hs : n < 4611686018427387904)
    (K : AV → List AO → Prop) (hK : ∀ ys : List {x : Int // p x}, ys.Perm xs → ys.Pairwise (fun p q => ltOf cf q p = false) → K (.tup []) [.row (.int .i64) (ys.map (·.1))]) : ACall P G f [.ref 0 0 n, .fn g caps] [.row (.int .i64) (xs.map (·.1))] K := by
  refine ⟨trivial, fun c H hA hG vs hv => .inl ⟨hfb, ?_⟩⟩
  have h0 : c.A[0]? = some (.row (.int .i64) (xs.map (·.1))) := by rw [hA]; rfl
  unfold RelL at hv
  obtain ⟨v, r, rfl, h1, hv⟩ := hv
  unfold RelL at hv
  obtain ⟨v2, r, rfl, h2, hv⟩ := hv
  unfold RelL at hv
  subst hv
  unfold Rel at h2
  obtain ⟨cb, rfl, hcb⟩ := h2
  unfold Rel at h1
  rw [h0] at h1
  rcases h1 with ⟨b, cap, cs, et, a, k1, k2, k3, k4, k5, k6⟩ | ⟨k1, k2, k3, p, k4⟩
  rotate_left
  · omega
  have ha := k3 (by omega)
  rw [Nat.zero_mul] at ha
  subst ha k2
  have hob := H.obj 0 _ h0
  rw [k1] at hob
  obtain ⟨hob, _⟩ | ⟨b', cs', et', hb', hcs, hcells⟩ := hob
  · cases hob
  cases hb'
  rw [k5] at hcs; cases hcs
  have hblk : b < c.w.heap.size := H.lt ⟨_, h0, rfl⟩ k1
  have hlay := cmp_lays1 H hG h0 rfl k1 hg hcap hc hcb n
  have hsz : xs.toArray.size = n := by simpa using hn
  have hH : Holds enc1 c.w b 0 xs.toArray := by
    intro t ht
    have ht : t < xs.length := by simpa using ht
    obtain ⟨ds, d1, d2⟩ := hcells t (by simpa using ht)
    have d1 : ds = [.int .i64 xs[t].1] := by
      have : FzC c.I c.w (.int .i64) ((xs.map (·.1))[t]'(by simpa using ht)) ds := d1
      unfold FzC at this
      simpa using this
    subst d1
    have hd := d2 0 (by simp)
    have hd : cs[t]? = some (.int .i64 xs[t].1) := by simpa [Ty.size] using hd
    refine ⟨?_, ?_⟩
    · rw [Nat.zero_add, getElem!_pos xs.toArray t (by simpa using ht)]
      unfold World.cell?
      rw [k5]
      simpa [enc1] using hd
    · unfold World.frozen?
      rw [k5]
      simp
  have hcall := Any.slices_SortFunc L enc1 (fun x => rfl) cf hO g cb.toArray b 0 cap xs.toArray c.w eg (by rw [hsz]; exact hlay) hH hblk (by rw [hsz]; exact hs)
  rw [hsz, hf] at hcall
  refine hcall.mono fun ev w' ⟨h3, d', m, os, p1, p2, p3⟩ => ?_
  obtain ⟨q1, _, q3⟩ := p1
  have hd : d'.size = n := q1.trans hsz
  have hperm : d'.toList.Perm xs := by
    have e1 : d'.extract 0 n = d' := by rw [← hd]; exact Array.extract_size
    have e2 : xs.toArray.extract 0 n = xs.toArray := by rw [← hsz]; exact Array.extract_size
    rw [e1, e2] at q3
    exact q3
  have hsort : d'.toList.Pairwise (fun p q => ltOf cf q p = false) := by
    rw [List.pairwise_iff_getElem]
    intro i j hi hj hij
    have hj' : j < d'.size := by simpa using hj
    have h := p2 i j (Nat.zero_le _) hij (by omega)
    rw [getElem!_pos d' i (by omega), getElem!_pos d' j hj'] at h
    simpa using h
  obtain ⟨cs2, hcs2⟩ : ∃ cs2, putCells enc1 0 d' cs = cs2 := ⟨_, rfl⟩
  have hcsz : cs2.size = cs.size := by rw [← hcs2]; simp [putCells]
  have hfit : n ≤ cs.size := by
    have : (0 + cap) * 1 ≤ cs.size := k6
    omega
  let o' : AO := .row (.int .i64) (d'.toList.map (·.1))
  have hob2 : ObjOk (c.wr 0 b cs2 o') (some b) o' := by
    refine .inr ⟨b, cs2, et, rfl, setRow_heap c.w b _ cs2 et (0, 0) k5, fun i hi => ?_⟩
    have hi' : i < d'.size := by simpa using hi
    refine ⟨[.int .i64 d'[i].1], ?_, fun j hj => ?_⟩
    · show FzC _ _ (.int .i64) ((d'.toList.map (·.1))[i]) _
      unfold FzC
      simp
    · have hj0 : j = 0 := by simpa using hj
      subst hj0
      rw [← hcs2]
      unfold putCells
      rw [Array.getElem?_mapIdx]
      have hil : i * Ty.size (.int .i64) + 0 = i := by simp [Ty.size]
      rw [hil, Array.getElem?_eq_getElem (by omega)]
      simp only [Option.map_some, Nat.zero_add, hd, Nat.sub_zero]
      rw [if_pos ⟨Nat.zero_le _, by omega⟩, getElem!_pos d' i hi']
      rfl
  have E1 := ext_wr (cs := cs2) (o' := o') H h0 rfl k1 k5 hcsz
  have H1 := hr_wr (cs := cs2) (o' := o') H h0 rfl k1 k5 hcsz hob2
  have hB : Below (c.wr 0 b cs2 o').w.heap.size (c.wr 0 b cs2 o').w w' := by
    have hw : w'.heap = (c.w.heap.modify b (onCells (putCells enc1 0 d'))) ++ os := by rw [p3]; rfl
    have hs2 : (c.w.setRow b cs2).heap.size = c.w.heap.size := size_setRow _ _ _
    refine ⟨by rw [p3]; rfl, by rw [p3]; rfl, by rw [p3]; rfl, ?_, fun k hk => ?_⟩
    · show (c.w.setRow b cs2).heap.size ≤ _
      rw [hs2, hw, Array.size_append, Array.size_modify]; omega
    · have hk : k < (c.w.setRow b cs2).heap.size := hk
      rw [hs2] at hk
      show w'.heap[k]? = (c.w.setRow b cs2).heap[k]?
      rw [hw, Array.getElem?_append, if_pos (by rw [Array.size_modify]; exact hk), Array.getElem?_modify]
      by_cases hkb : b = k
      · subst hkb
        rw [if_pos rfl, setRow_heap c.w b _ cs2 et (0, 0) k5, k5]
        simp [onCells, hcs2]
      · rw [if_neg hkb, setRow_other c.w b k cs2 (Ne.symm hkb)]
  obtain ⟨E2, H2⟩ := below_ext H1 hB
  refine ⟨_, _, .tup [], h3, rfl, E1.trans E2, H2, ?_, ?_⟩
  · unfold Rel; exact ⟨[], rfl, by unfold RelL; rfl⟩
  · show K _ (c.A.set 0 o')
    rw [hA]
    exact hK _ hperm hsort
end
end Go.Ab
/-
  Ways at a place put in order: slices.SortFunc.
-/
namespace Go.Proofs.YtcfalmdfohphoaaDoor
open Go Go.Ab Go.Sort Go.Proofs
set_option maxRecDepth 100000
/-- the ways at a place -/
def wayAt (m : Shp.Arcs) (p : Shp.Sp) (v : Int) : Prop := Shp.isWay m v ∧ Shp.frm m v = p
def cfW (m : Shp.Arcs) (p : Shp.Sp) (x y : {v : Int // wayAt m p v}) : Int := Shp.trn (Shp.dr m x.1) (Shp.dr m y.1)
theorem cfW_swo {m : Shp.Arcs} (R : Shp.Right m) (p : Shp.Sp) : SWO (ltOf (cfW m p)) := by
  have h1 : ∀ x y, ltOf (cfW m p) x y = true ↔ Shp.trn (Shp.dr m x.1) (Shp.dr m y.1) < 0 := fun x y => by unfold ltOf cfW; rw [decide_eq_true_iff]
  have h0 : ∀ x y, ltOf (cfW m p) x y = false ↔ ¬ Shp.trn (Shp.dr m x.1) (Shp.dr m y.1) < 0 := fun x y => by rw [← h1]; simp
  have nz : ∀ x : {v : Int // wayAt m p v}, Shp.dr m x.1 ≠ (0, 0) := fun x => Shp.dr_ne R x.2.1
  have sw : ∀ d e, Shp.trn e d = - Shp.trn d e := Shp.trn_swap
  refine ⟨fun x => (h0 x x).2 ?_, fun x y z a b => (h1 x z).2 ?_, fun x y z a b => (h0 x z).2 ?_⟩
  · have := sw (Shp.dr m x.1) (Shp.dr m x.1)
    omega
  · have a := (h1 x y).1 a
    have b := (h1 y z).1 b
    have c := Shp.trn_le_trans (nz x) (nz y) (nz z) (by omega) (by omega)
    have s := sw (Shp.dr m y.1) (Shp.dr m z.1)
    have s2 := sw (Shp.dr m x.1) (Shp.dr m z.1)
    refine Classical.byContradiction fun hn => ?_
    have d := Shp.trn_le_trans (nz z) (nz x) (nz y) (by omega) (by omega)
    omega
  · have a := (h0 x y).1 a
    have b := (h0 y z).1 b
    have s := sw (Shp.dr m x.1) (Shp.dr m y.1)
    have s2 := sw (Shp.dr m y.1) (Shp.dr m z.1)
    have s3 := sw (Shp.dr m x.1) (Shp.dr m z.1)
    have d := Shp.trn_le_trans (nz z) (nz y) (nz x) (by omega) (by omega)
    omega
theorem sortWays_any (G : List (Nat × Value)) (m : Shp.Arcs) (B : MB m) (R : Shp.Right m) (p : Shp.Sp) (hp : plB p = true) (xs : List Int) (hx : ∀ v ∈ xs, wayAt m p v) (n : Nat) (hn : xs.length = n) (h0 : 0 < n) (hs : n < 1000000) (K : AV → List AO → Prop)
    (hK : ∀ ys : List Int, ys.Perm xs → ys.Pairwise (fun a b => ¬ Shp.trn (Shp.dr m b) (Shp.dr m a) < 0) → K (.tup []) [.row int ys]) :
    ACall Tryd.prog G 48 [.ref 0 0 n, .fn 49 [.fptr MpT m, .fptr SpT p]] [.row int xs] K := by
  obtain ⟨zs, hzs⟩ : ∃ zs : List {v : Int // wayAt m p v}, zs.map (·.1) = xs := ⟨xs.attach.map fun v => ⟨v.1, hx v.1 v.2⟩, by rw [List.map_map]; exact List.attach_map_subtype_val xs⟩
  have hl : zs.length = n := by rw [← hn, ← hzs, List.length_map]
  obtain ⟨z, hz⟩ : ∃ z, z ∈ zs := by
    cases zs with
    | nil => simp at hl; omega
    | cons z zs => exact ⟨z, List.mem_cons_self ..⟩
  haveI : Inhabited {v : Int // wayAt m p v} := ⟨z⟩
  have hdr : ∀ x : {v : Int // wayAt m p v}, wdr m p x.1 = Shp.dr m x.1 := fun x => by unfold wdr Shp.dr; rw [x.2.2]
  rw [← hzs]
  refine acall_sort1 Tryd.sortInt (cfW_swo R p) ⟨_, Tryd.func49, rfl, rfl⟩ (enters_of Tryd.func49 (by kernel_rfl) rfl) (caps := [.fptr MpT m, .fptr SpT p]) ?_
    (fun x y K hK => nexts1_any G m B p hp x.1 y.1 x.2.1 y.2.1 K (by rw [hdr, hdr]; exact hK)) rfl ⟨_, Tryd.func48, rfl, rfl⟩ zs n hl h0 (by omega) K (fun ys h1 h2 => hK _ ?_ ?_)
  · exact ⟨trivial, trivial, trivial⟩
  · rw [← hzs]; exact h1.map _
  · rw [List.pairwise_map]
    refine h2.imp fun {a b} h => ?_
    unfold ltOf cfW at h
    exact of_decide_eq_false h
end Go.Proofs.YtcfalmdfohphoaaDoor
/-
  The next ways: rows of ways at each place, in a map.
-/
namespace Go.Proofs.YtcfalmdfohphoaaDoor
open Go Go.Ab Mp
set_option maxRecDepth 100000
/-- the ways at a place, in the order they come -/
def wat (m : Shp.Arcs) (ws : List Int) (p : Shp.Sp) : List Int := ws.filter fun v => decide (Shp.frm m v = p)
theorem wat_snoc (m : Shp.Arcs) (ws : List Int) (w : Int) (p : Shp.Sp) : wat m (ws ++ [w]) p = if Shp.frm m w = p then wat m ws p ++ [w] else wat m ws p := by
  unfold wat
  rw [List.filter_append]
  by_cases h : Shp.frm m w = p
  · rw [if_pos h]; simp [h]
  · rw [if_neg h]; simp [h]
abbrev NxS := List (Nat × Shp.Sp × Option (Nat × Nat))
def vaR : Option (Nat × Nat) → AV
  | none => .nilSl
  | some (t, l) => .ref t 0 l
/-- the rows of the map -/
structure NX (m : Shp.Arcs) (ws : List Int) (bm clk : Nat) (S : NxS) (A : List AO) : Prop where
  mo : MO spG clk S
  map : A[0]? = some (mpK kvS vaR bm clk S)
  row : ∀ p t l, gv S p none = some (t, l) → A[t]? = some (.row int (wat m ws p)) ∧ l = (wat m ws p).length ∧ t ≠ 0 ∧ 0 < l
  all : ∀ e ∈ S, e.2.2 ≠ none
  non : ∀ p, gv S p none = none → wat m ws p = []
  inj : ∀ p q t l l', gv S p none = some (t, l) → gv S q none = some (t, l') → p = q
theorem NX.step {m : Shp.Arcs} {ws : List Int} {bm clk : Nat} {S : NxS} {A A' : List AO} (h : NX m ws bm clk S A) (w : Int) {p : Shp.Sp} (hp : Shp.frm m w = p) (hg : spG p) (t' : Nat) (ht0 : t' ≠ 0)
    (h0 : A'[0]? = some (mpK kvS vaR bm (cS S clk p) (pS S clk p (some (t', (wat m ws p).length + 1)))))
    (hr : ∀ q t l, q ≠ p → gv S q none = some (t, l) → A'[t]? = A[t]? ∧ t ≠ t') (hn : A'[t']? = some (.row int (wat m ws p ++ [w]))) : NX m (ws ++ [w]) bm (cS S clk p) (pS S clk p (some (t', (wat m ws p).length + 1))) A' := by
  have hv : ∀ q, gv (pS S clk p (some (t', (wat m ws p).length + 1))) q none = if q = p then some (t', (wat m ws p).length + 1) else gv S q none := fun q => gv_put h.mo
  refine ⟨h.mo.put hg _, h0, fun q t l hq => ?_, fun x hx => ?_, fun q hq => ?_, fun q r t l l' hq hr' => ?_⟩
  rotate_left
  · unfold pS at hx
    split at hx
    · rcases List.mem_or_eq_of_mem_set hx with c | c
      · exact h.all x c
      · rw [c]; exact fun e => by cases e
    · rcases List.mem_append.1 hx with c | c
      · exact h.all x c
      · simp at c; rw [c]; exact fun e => by cases e
  rotate_left
  rotate_left
  · rw [hv] at hq
    rw [wat_snoc, hp]
    by_cases c : q = p
    · subst c
      rw [if_pos rfl] at hq ⊢
      simp only [Option.some.injEq, Prod.mk.injEq] at hq
      obtain ⟨rfl, rfl⟩ := hq
      exact ⟨hn, by simp, ht0, Nat.succ_pos _⟩
    · rw [if_neg c] at hq
      rw [if_neg (fun e => c e.symm), (hr q t l c hq).1]
      exact h.row q t l hq
  · rw [hv] at hq
    rw [wat_snoc, hp]
    by_cases c : q = p
    · rw [if_pos c] at hq; cases hq
    · rw [if_neg c] at hq
      rw [if_neg (fun e => c e.symm)]
      exact h.non q hq
  · rw [hv] at hq hr'
    by_cases c : q = p
    · by_cases d : r = p
      · rw [c, d]
      · rw [if_pos c] at hq
        rw [if_neg d] at hr'
        simp only [Option.some.injEq, Prod.mk.injEq] at hq
        exact ((hr r t l' d hr').2 hq.1.symm).elim
    · rw [if_neg c] at hq
      by_cases d : r = p
      · rw [if_pos d] at hr'
        simp only [Option.some.injEq, Prod.mk.injEq] at hr'
        exact ((hr q t l c hq).2 hr'.1.symm).elim
      · rw [if_neg d] at hr'
        exact h.inj q r t l l' hq hr'
theorem zero_slI (c : Cx) : ∃ zv, (zeroValue 35).run Tryd.prog c.w = .ok zv c.w ∧ Rel c (vaR none) zv := ⟨.slice none 0 0, by kernel_rfl, by unfold vaR Rel; exact ⟨none, rfl⟩⟩
/-- the ways so far -/
def wsF (i j : Nat) : List Int := Shp.wf i ++ [(i : Int) + 1, -((i : Int) + 1)].take j
theorem wsF_two (i : Nat) : wsF i 2 = wsF (i + 1) 0 := by unfold wsF; rw [List.take_zero, List.append_nil]; rfl
theorem wsF_next {i j : Nat} (hj : j < 2) : ∃ w : Int, (j = 0 → w = (i : Int) + 1) ∧ (j = 1 → w = -((i : Int) + 1)) ∧ w.natAbs = i + 1 ∧ wsF i (j + 1) = wsF i j ++ [w] := by
  rcases (by omega : j = 0 ∨ j = 1) with rfl | rfl
  · exact ⟨(i : Int) + 1, fun _ => rfl, fun h => by omega, by omega, by unfold wsF; simp⟩
  · exact ⟨-((i : Int) + 1), fun h => by omega, fun _ => rfl, by omega, by unfold wsF; simp⟩
/-! ### numbers as keys -/
def kvI (x : Int) : Value := .int .i64 x
def iG (x : Int) : Prop := -9223372036854775808 ≤ x ∧ x ≤ 9223372036854775807
theorem kvI_in (x y : Int) (h : kvI x = kvI y) : x = y := by simpa [kvI] using h
theorem keyedI : Go.Maps.Keyed Tryd.prog 3 := Go.Maps.int_keyed Tryd.underlying3
theorem iG_ok (x : Int) (h : iG x) : ∃ l, keyOf Tryd.prog 3 (kvI x) = some l := ⟨_, Go.Maps.keyOf_int_mk Tryd.underlying3 (wf64 h)⟩
theorem rel_kvI {x : Int} : ∀ (c : Cx) v, Rel c (.fz (.int .i64) x) v → v = kvI x := fun _ _ h => rel_int.1 h
abbrev inO (bm clk : Nat) (S : List (Nat × Int × Int)) : AO := mpK kvI (fun v : Int => .fz int v) bm clk S
/-- a row is lent to the sort, out of a memory that is not written out -/
theorem sort_lend (G : List (Nat × Value)) (m : Shp.Arcs) (B : MB m) (R : Shp.Right m) (p : Shp.Sp) (hp : plB p = true) (A : List AO) (t : Nat) (xs : List Int) (ht : A[t]? = some (.row int xs)) (hx : ∀ v ∈ xs, wayAt m p v) (h0 : 0 < xs.length) (hs : xs.length < 1000000) (K : AV → List AO → Prop)
    (hK : ∀ ys : List Int, ys.Perm xs → ys.Pairwise (fun a b => ¬ Shp.trn (Shp.dr m b) (Shp.dr m a) < 0) → K (.tup []) (A.set t (.row int ys))) :
    ACall Tryd.prog G 48 [.ref t 0 xs.length, .fn 49 [.fptr MpT m, .fptr SpT p]] A K := by
  have htl := get_lt ht
  refine acall_frame [t] [.row int xs] [.ref 0 0 xs.length, .fn 49 [.fptr MpT m, .fptr SpT p]] ?_ ⟨⟨ht, trivial⟩, trivial⟩ ⟨rfl, rfl⟩ rfl (sortWays_any G m B R p hp xs hx xs.length rfl h0 hs _ fun ys h1 h2 => ?_)
  · simp only [frB, ndB, memB, List.all_cons, List.all_nil, Bool.and_true, Bool.not_false]
    simpa using htl
  · have := hK ys h1 h2
    show K (.tup []) ((A.set t (.row int ys)) ++ [])
    rw [List.append_nil]
    exact this
theorem conv1_spot {A : List AO} {tok : Nat} {p : Int × Int} (h : A[tok]? = some (bx2 p)) : conv1 A (.pt SpT) (.ptr tok 0) = (none, some (.fptr SpT p), A.set tok .dead) := by
  unfold conv1
  simp only [h]
  rfl
theorem wat_len (m : Shp.Arcs) (i j : Nat) (p : Shp.Sp) : (wat m (wsF i j) p).length ≤ 2 * i + 2 := by
  unfold wat
  refine Nat.le_trans (List.length_filter_le _ _) ?_
  unfold wsF
  rw [List.length_append, Shp.wf_length, List.length_take]
  simp
  omega
/-! ### the ways at each place in order -/
theorem wf_nodup : ∀ n, (Shp.wf n).Nodup
  | 0 => List.nodup_nil
  | k + 1 => by
    rw [Shp.wf, List.nodup_append]
    refine ⟨wf_nodup k, by simp; omega, fun a ha b hb => ?_⟩
    have h1 := (Shp.mem_wf k a).1 ha
    simp at hb
    rintro rfl
    rcases hb with hb | hb <;> omega
theorem mem_wat {m : Shp.Arcs} {p : Shp.Sp} {v : Int} : v ∈ wat m (Shp.wf m.length) p ↔ wayAt m p v := by
  unfold wat wayAt Shp.isWay
  rw [List.mem_filter, Shp.mem_wf, decide_eq_true_iff]
/-- the order found is the one that the document asks for -/
theorem next_ok {m : Shp.Arcs} (R : Shp.Right m) {p : Shp.Sp} {ys : List Int} (hp : ys.Perm (wat m (Shp.wf m.length) p)) (hs : ys.Pairwise (fun a b => ¬ Shp.trn (Shp.dr m b) (Shp.dr m a) < 0)) {i : Nat} (hi : i < ys.length) :
    Shp.nof m (-(ys[i])) = ys[(i + ys.length - 1) % ys.length]'(Nat.mod_lt _ (by omega)) := by
  have hm : ∀ v, v ∈ ys ↔ Shp.isWay m v ∧ Shp.frm m v = p := fun v => by rw [hp.mem_iff]; exact mem_wat
  have hnd : ys.Nodup := hp.nodup_iff.2 ((wf_nodup _).filter _)
  refine Shp.nof_prev (m := m) (p := p) (l := ys) hm ?_ (fun v hv => Shp.dr_ne R ((hm v).1 hv).1) (w := -(ys[i])) hi (by omega)
  rw [List.pairwise_iff_getElem] at hs ⊢
  intro a b ha hb hab
  have h1 := hs a b ha hb hab
  have h2 := (hm _).1 (List.getElem_mem ha)
  have h3 := (hm _).1 (List.getElem_mem hb)
  have h4 : ys[a] ≠ ys[b] := fun e => by have := (List.getElem_inj hnd).1 e; omega
  have h5 := Shp.dr_diff R h2.1 h3.1 (h2.2.trans h3.2.symm) h4
  have h6 := Shp.trn_swap (Shp.dr m ys[a]) (Shp.dr m ys[b])
  omega
/-- while the places are gone through; the ways D are done -/
structure NY (m : Shp.Arcs) (bm clk : Nat) (S : NxS) (bm2 N : Nat) (seen : List Nat) (D : Int → Prop) (clk2 : Nat) (NS : List (Nat × Int × Int)) (A : List AO) : Prop where
  map : A[0]? = some (mpK kvS vaR bm clk S)
  nx : A[N]? = some (inO bm2 clk2 NS)
  it : A[N + 1]? = some (.mapo (.iter bm clk seen clk) [])
  mo : MO iG clk2 NS
  nd : seen.Nodup
  sub : ∀ x ∈ seen, x ∈ S.map (·.1)
  row : ∀ e ∈ S, e.1 ∉ seen → ∀ t l, e.2.2 = some (t, l) → A[t]? = some (.row int (wat m (Shp.wf m.length) e.2.1))
  val : ∀ v, Shp.isWay m v → D v → gv NS (-v) 0 = Shp.nof m (-v)
theorem NY.mem {m : Shp.Arcs} {bm clk : Nat} {S : NxS} {bm2 N : Nat} {seen : List Nat} {D : Int → Prop} {clk2 : Nat} {NS : List (Nat × Int × Int)} {A A' : List AO} (h : NY m bm clk S bm2 N seen D clk2 NS A)
    (h0 : A'[0]? = A[0]?) (h1 : A'[N]? = A[N]?) (h2 : A'[N + 1]? = A[N + 1]?) (h3 : ∀ e ∈ S, e.1 ∉ seen → ∀ t l, e.2.2 = some (t, l) → A'[t]? = A[t]?) : NY m bm clk S bm2 N seen D clk2 NS A' :=
  ⟨h0.trans h.map, h1.trans h.nx, h2.trans h.it, h.mo, h.nd, h.sub, fun e he hs t l ht => (h3 e he hs t l ht).trans (h.row e he hs t l ht), h.val⟩
theorem NY.put {m : Shp.Arcs} {bm clk : Nat} {S : NxS} {bm2 N : Nat} {seen : List Nat} {D : Int → Prop} {clk2 : Nat} {NS : List (Nat × Int × Int)} {A : List AO} (h : NY m bm clk S bm2 N seen D clk2 NS A) (hN : N ≠ 0)
    (ht : ∀ e ∈ S, ∀ t l, e.2.2 = some (t, l) → t ≠ N) {w : Int} (hw : iG (-w)) : NY m bm clk S bm2 N seen (fun v => D v ∨ v = w) (cS NS clk2 (-w)) (pS NS clk2 (-w) (Shp.nof m (-w))) (A.set N (inO bm2 (cS NS clk2 (-w)) (pS NS clk2 (-w) (Shp.nof m (-w))))) := by
  have hlt := get_lt h.nx
  refine ⟨?_, List.getElem?_set_self hlt, ?_, h.mo.put hw _, h.nd, h.sub, fun e he hs t l hte => ?_, fun v hv hD => ?_⟩
  · rw [List.getElem?_set_ne hN]; exact h.map
  · rw [List.getElem?_set_ne (by omega)]; exact h.it
  · rw [List.getElem?_set_ne (Ne.symm (ht e he t l hte))]; exact h.row e he hs t l hte
  · rw [gv_put h.mo]
    by_cases c : v = w
    · rw [if_pos (by rw [c]), c]
    · rw [if_neg (by omega)]
      exact h.val v hv (hD.resolve_right c)
theorem NY.weak {m : Shp.Arcs} {bm clk : Nat} {S : NxS} {bm2 N : Nat} {seen : List Nat} {D D2 : Int → Prop} {clk2 : Nat} {NS : List (Nat × Int × Int)} {A : List AO} (h : NY m bm clk S bm2 N seen D clk2 NS A) (hD : ∀ v, Shp.isWay m v → D2 v → D v) : NY m bm clk S bm2 N seen D2 clk2 NS A :=
  ⟨h.map, h.nx, h.it, h.mo, h.nd, h.sub, h.row, fun v hv h2 => h.val v hv (hD v hv h2)⟩
theorem len_subN : ∀ (l m : List Nat), l.Nodup → (∀ e ∈ l, e ∈ m) → l.length ≤ m.length
  | [], _, _, _ => Nat.zero_le _
  | e :: l, m, hn, hs => by
    obtain ⟨h1, h2⟩ := List.nodup_cons.1 hn
    have hm := hs e (List.mem_cons_self ..)
    have := len_subN l (m.erase e) h2 fun x hx => (List.mem_erase_of_ne (fun h : x = e => h1 (by rw [← h]; exact hx))).2 (hs x (List.mem_cons_of_mem _ hx))
    rw [List.length_erase_of_mem hm] at this
    have h3 := List.length_pos_of_mem hm
    simp only [List.length_cons]; omega
theorem tmod_prev {i n : Nat} (h : 0 < n) : Int.tmod ((i : Int) + (n : Int) - 1) (n : Int) = (((i + n - 1) % n : Nat) : Int) := by
  rw [show (i : Int) + (n : Int) - 1 = ((i + n - 1 : Nat) : Int) by omega]
  exact (Int.ofNat_tmod _ _).symm
set_option maxHeartbeats 8000000 in
theorem nexts_any (G : List (Nat × Value)) (m : Shp.Arcs) (B : MB m) (R : Shp.Right m) (K : AV → List AO → Prop) (hK : ∀ bm clk NS, MO iG clk NS → (∀ v, Shp.isWay m v → gv NS v 0 = Shp.nof m v) → K (.ptr 0 0) [inO bm clk NS]) : ACall Tryd.prog G 25 [.fz MpT m] [] K := by
  have hfew := B.few
  refine acall_mk (E := envCut G 82 0 [8, 9, 12, 13, 14, 15, 16, 17]) (envCutOk _ _ _ _) Tryd.func25 rfl rfl rfl rfl rfl ?_
  refine aact_make fun bm => ?_
  (repeat' (first | exact trivial | refine And.intro ?_ ?_ | (intro hb; try simp at hb) | omega | exact rfl | refine aRegion_auto (by decide +kernel) ?_ | fail))
  refine ⟨Nat × Nat × NxS × List AO, fun x => ⟨[(1, .fptr MpT m), (3, .ptr 0 0), (17, .fz (.list (.list SpT)) m), (18, .fz int m.length), (19, .fz int x.1)], x.2.2.2⟩, fun x => x.1 ≤ m.length ∧ NX m (wsF x.1 0) bm x.2.1 x.2.2.1 x.2.2.2, fun x => m.length - x.1, (0, 0, [], [mpK kvS vaR bm 0 []]), ⟨Nat.zero_le _, ?_⟩, (Ent.conv 1 (.pt MpT) none rfl trivial).trans (Ent.ren [1] rfl ?_ ?_), ?_⟩
  · exact ⟨MO.nil, rfl, fun p t l h => (by simp [gv] at h), fun e h => (by cases h), fun p h => rfl, fun p q t l l' h => (by simp [gv] at h)⟩
  · (repeat' (first | exact trivial | exact rfl | refine And.intro ?_ ?_))
  · (repeat' (first | exact trivial | exact rfl | refine And.intro ?_ ?_))
  rintro ⟨i, clk, S, A⟩ ⟨hi, hX⟩
  have hi : i ≤ m.length := hi
  have hX : NX m (wsF i 0) bm clk S A := hX
  show awp _ _ _ ⟨[(1, .fptr MpT m), (3, .ptr 0 0), (17, .fz (.list (.list SpT)) m), (18, .fz int m.length), (19, .fz int i)], A⟩
  by_cases him : i < m.length
  · (repeat' (first | exact trivial | refine And.intro ?_ ?_ | (intro hb; try simp at hb) | omega | exact rfl | refine aRegion_auto (by decide +kernel) ?_ | fail))
    refine ⟨Nat × Nat × NxS × List AO, fun x => ⟨[(1, .fptr MpT m), (3, .ptr 0 0), (17, .fz (.list (.list SpT)) m), (18, .fz int m.length), (19, .fz int i), (27, .agg [.fz int ((i : Int) + 1), .fz int (-((i : Int) + 1))]), (28, .fz int x.1)], x.2.2.2⟩, fun x => x.1 ≤ 2 ∧ NX m (wsF i x.1) bm x.2.1 x.2.2.1 x.2.2.2, fun x => 2 - x.1, (0, clk, S, A), ⟨Nat.zero_le _, hX⟩, Ent.sub rfl ?_, ?_⟩
    · (repeat' (first | exact trivial | exact rfl | refine And.intro ?_ ?_))
      exact congrArg (fun z => AV.agg [.fz int ((i : Int) + 1), .fz int z]) (show (0 : Int) - (i : Int) - 1 = -((i : Int) + 1) by omega)
    rintro ⟨j, clk, S, A⟩ ⟨hj2, hX⟩
    have hj2 : j ≤ 2 := hj2
    have hX : NX m (wsF i j) bm clk S A := hX
    show awp _ _ _ ⟨[(1, .fptr MpT m), (3, .ptr 0 0), (17, .fz (.list (.list SpT)) m), (18, .fz int m.length), (19, .fz int i), (27, .agg [.fz int ((i : Int) + 1), .fz int (-((i : Int) + 1))]), (28, .fz int j)], A⟩
    by_cases hj : j < 2
    · obtain ⟨w, hw0, hw1, hwa, hws⟩ := wsF_next (i := i) hj
      have hway : Shp.isWay m w := ⟨by omega, by omega⟩
      have cw := way_any G m w B hway
      obtain ⟨f, hf⟩ : ∃ f, Shp.frm m w = f := ⟨_, rfl⟩
      obtain ⟨g, hg⟩ : ∃ g, Shp.nxp m w = g := ⟨_, rfl⟩
      obtain ⟨e, he⟩ : ∃ e, tos m w = e := ⟨_, rfl⟩
      have pf := frm_pl B hway
      rw [hf] at pf
      rw [hf, hg, he] at cw
      have hfG := spG_of pf
      obtain ⟨z, hz⟩ : ∃ z : Int, (j : Int) = z := ⟨_, rfl⟩
      rw [hz]
      apply merge
      · intro hc
        rcases (by omega : j = 0 ∨ j = 1) with hj0 | hj0
        · have hw := hw0 hj0
          obtain rfl : z = 0 := by omega
          (repeat' (first | exact trivial | refine And.intro ?_ ?_ | (intro hb; try simp at hb) | omega | exact rfl | refine aRegion_auto (by decide +kernel) ?_ | fail))
          refine ⟨[(1, .fptr MpT m), (3, .ptr 0 0), (6, .fz int w), (17, .fz (.list (.list SpT)) m), (18, .fz int m.length), (19, .fz int i), (27, .agg [.fz int ((i : Int) + 1), .fz int (-((i : Int) + 1))]), (28, .fz int j)], A, Ent.sub rfl ?_, hc.out⟩
          (repeat' (first | exact trivial | exact rfl | refine And.intro ?_ ?_))
          · exact congrArg (fun z => AV.fz int z) hw.symm
          · exact congrArg (fun z => AV.fz int z) hz.symm
        · have hw := hw1 hj0
          obtain rfl : z = 1 := by omega
          (repeat' (first | exact trivial | refine And.intro ?_ ?_ | (intro hb; try simp at hb) | omega | exact rfl | refine aRegion_auto (by decide +kernel) ?_ | fail))
          refine ⟨[(1, .fptr MpT m), (3, .ptr 0 0), (6, .fz int w), (17, .fz (.list (.list SpT)) m), (18, .fz int m.length), (19, .fz int i), (27, .agg [.fz int ((i : Int) + 1), .fz int (-((i : Int) + 1))]), (28, .fz int j)], A, Ent.sub rfl ?_, hc.out⟩
          (repeat' (first | exact trivial | exact rfl | refine And.intro ?_ ?_))
          · exact congrArg (fun z => AV.fz int z) hw.symm
          · exact congrArg (fun z => AV.fz int z) hz.symm
      clear hz
      refine acall_frame0 rfl (cw _ ?_)
      refine force_of _ _ _ ?_
      rw [show A ++ mapOs (frN [] A.length) [] = A from List.append_nil A]
      obtain ⟨N, hN⟩ : ∃ N, A.length = N := ⟨_, rfl⟩
      have hA0 := get_lt hX.map
      rw [hN] at hA0
      have hzr : tzero tab 46 = some [.fz int 0, .fz int 0] := rfl
      have e1 : A ++ [AO.box [AV.fz int 0, AV.fz int 0]] ++ [AO.box [AV.fz int 0, AV.fz int 0]] ++ [AO.box [AV.fz int 0, AV.fz int 0]] = A ++ [AO.box [AV.fz int 0, AV.fz int 0], AO.box [AV.fz int 0, AV.fz int 0], AO.box [AV.fz int 0, AV.fz int 0]] := by simp
      have l1 : (A ++ [AO.box [AV.fz int 0, AV.fz int 0]]).length = N + 1 := by simp [hN]
      have l2 : (A ++ [AO.box [AV.fz int 0, AV.fz int 0]] ++ [AO.box [AV.fz int 0, AV.fz int 0]]).length = N + 2 := by simp [hN]
      have b1 : (A ++ [AO.box [AV.fz int 0, AV.fz int 0], AO.box [AV.fz int 0, AV.fz int 0], AO.box [AV.fz int 0, AV.fz int 0]])[N]? = some (AO.box [AV.fz int 0, AV.fz int 0]) := by rw [List.getElem?_append_right (by omega), hN]; simp
      have b2 : (A ++ [bx2 f, AO.box [AV.fz int 0, AV.fz int 0], AO.box [AV.fz int 0, AV.fz int 0]])[N + 1]? = some (AO.box [AV.fz int 0, AV.fz int 0]) := by rw [List.getElem?_append_right (by omega), hN]; simp
      have b3 : (A ++ [bx2 f, bx2 g, AO.box [AV.fz int 0, AV.fz int 0]])[N + 2]? = some (AO.box [AV.fz int 0, AV.fz int 0]) := by rw [List.getElem?_append_right (by omega), hN]; simp
      have s1 : (A ++ [AO.box [AV.fz int 0, AV.fz int 0], AO.box [AV.fz int 0, AV.fz int 0], AO.box [AV.fz int 0, AV.fz int 0]]).set N (bx2 f) = A ++ [bx2 f, AO.box [AV.fz int 0, AV.fz int 0], AO.box [AV.fz int 0, AV.fz int 0]] := by rw [List.set_append_right _ _ (by omega), hN]; simp
      have s2 : (A ++ [bx2 f, AO.box [AV.fz int 0, AV.fz int 0], AO.box [AV.fz int 0, AV.fz int 0]]).set (N + 1) (bx2 g) = A ++ [bx2 f, bx2 g, AO.box [AV.fz int 0, AV.fz int 0]] := by rw [List.set_append_right _ _ (by omega), hN]; simp
      have s3 : (A ++ [bx2 f, bx2 g, AO.box [AV.fz int 0, AV.fz int 0]]).set (N + 2) (bx2 e) = A ++ [bx2 f, bx2 g, bx2 e] := by rw [List.set_append_right _ _ (by omega), hN]; simp
      refine aOps_pureE rfl rfl rfl rfl rfl ?_
      refine aOps_pureE rfl rfl rfl rfl rfl ?_
      refine aOps_pureE rfl rfl rfl rfl rfl ?_
      refine aOps_pureE rfl rfl rfl rfl rfl ?_
      refine aOps_eff rfl rfl rfl (congrArg Kind.eff (aAlloc_eq hzr)) (runE_none ?_)
      refine aOps_eff rfl rfl rfl (congrArg Kind.eff (aAlloc_eq hzr)) (runE_none ?_)
      refine aOps_eff rfl rfl rfl (congrArg Kind.eff (aAlloc_eq hzr)) (runE_none ?_)
      rw [e1, l1, l2, hN]
      refine aOps_effN rfl rfl (congrArg Kind.eff (aStore_eq b1 rfl rfl rfl rfl)) (runE_none ?_)
      refine (congrArg (fun Z => aOps _ _ _ _ _ _ _ Z _) s1).mpr ?_
      refine aOps_effN rfl rfl (congrArg Kind.eff (aStore_eq b2 rfl rfl rfl rfl)) (runE_none ?_)
      refine (congrArg (fun Z => aOps _ _ _ _ _ _ _ Z _) s2).mpr ?_
      refine aOps_effN rfl rfl (congrArg Kind.eff (aStore_eq b3 rfl rfl rfl rfl)) (runE_none ?_)
      refine (congrArg (fun Z => aOps _ _ _ _ _ _ _ Z _) s3).mpr ?_
      obtain ⟨A3, hA3⟩ : ∃ A3, A ++ [bx2 f, bx2 g, bx2 e] = A3 := ⟨_, rfl⟩
      have l3 : A3.length = N + 3 := by rw [← hA3]; simp [hN]
      have g3 : ∀ t, t < N → A3[t]? = A[t]? := fun t ht => by rw [← hA3, List.getElem?_append_left (by omega)]
      have gf : A3[N]? = some (bx2 f) := by rw [← hA3, List.getElem?_append_right (by omega), hN]; simp
      rw [hA3]
      refine ⟨[(1, .fptr MpT m), (3, .ptr 0 0), (6, .fz int w), (7, .ptr N 0), (17, .fz (.list (.list SpT)) m), (18, .fz int m.length), (19, .fz int i), (27, .agg [.fz int ((i : Int) + 1), .fz int (-((i : Int) + 1))]), (28, .fz int j)], A3, Ent.sub rfl ?_, ?_⟩
      · (repeat' (first | exact trivial | exact rfl | refine And.intro ?_ ?_))
      have h3m : A3[0]? = some (mpK kvS vaR bm clk S) := by rw [g3 0 hA0]; exact hX.map
      have gfl : aLoad tab G A3 46 (.ptr N 0) = (none, .agg [.fz int f.1, .fz int f.2]) := aLoad_eq gf rfl rfl rfl
      have hbs : aBuildSlice tab A3 35 1 [(0, .fz int w)] = ⟨none, .ref A3.length 0 1, A3 ++ [.row int [w]]⟩ := rfl
      refine aReg_ops ?_
      refine aOps_pureE rfl rfl rfl rfl rfl ?_
      refine aOps_pureE rfl rfl rfl rfl gfl ?_
      refine aOps_pureE rfl rfl rfl rfl rfl ?_
      refine aOps_eff rfl rfl rfl (congrArg Kind.eff hbs) (runE_none ?_)
      rw [l3]
      obtain ⟨A4, hA4⟩ : ∃ A4, A3 ++ [AO.row int [w]] = A4 := ⟨_, rfl⟩
      have l4 : A4.length = N + 4 := by rw [← hA4, List.length_append, l3]; rfl
      have h4m : A4[0]? = some (mpK kvS vaR bm clk S) := by rw [← hA4, List.getElem?_append_left (by omega)]; exact h3m
      have g4 : ∀ t, t < N → A4[t]? = A[t]? := fun t ht => by rw [← hA4, List.getElem?_append_left (by omega), g3 t ht]
      have r4 : A4[N + 3]? = some (.row int [w]) := by rw [← hA4, List.getElem?_append_right (by omega), l3]; simp
      rw [hA4]
      refine aOps_mop rfl rfl rfl rfl (aact_upG f (d := none) (tok := 0) (off := 0) (bm := bm) (clk := clk) (S := S) rfl h4m hX.mo Tryd.underlying82 keyedS kvS_in spG_ok rel_kvS hfG zero_slI ?_)
      obtain ⟨A5, hA5⟩ : ∃ A5, A4.set 0 (mpK kvS vaR bm (cS S clk f) (uS S clk f none)) = A5 := ⟨_, rfl⟩
      have l5 : A5.length = N + 4 := by rw [← hA5, List.length_set, l4]
      have h5m : A5[0]? = some (mpK kvS vaR bm (cS S clk f) (uS S clk f none)) := by rw [← hA5, List.getElem?_set_self (by omega)]
      have g5 : ∀ t, t ≠ 0 → t < N → A5[t]? = A[t]? := fun t h0 ht => by rw [← hA5, List.getElem?_set_ne (Ne.symm h0), g4 t ht]
      have r5 : A5[N + 3]? = some (.row int [w]) := by rw [← hA5, List.getElem?_set_ne (by omega), r4]
      rw [hA5]
      cases hgv : gv S f none with
      | none =>
        have hwn := hX.non f hgv
        refine aOps_pureE rfl rfl rfl rfl rfl ?_
        refine aOps_eff rfl rfl rfl (congrArg Kind.eff (aAppend_nil (e := int) (D := tab) (el := 3) (ys := [w]) rfl rfl rfl (aSrc_ref (e := int) (ys := [w]) r5) rfl)) (runE_some ⟨by simp, by simp⟩ ?_)
        rw [l5]
        obtain ⟨A6, hA6⟩ : ∃ A6, A5 ++ [AO.row int [w]] = A6 := ⟨_, rfl⟩
        have l6 : A6.length = N + 5 := by rw [← hA6, List.length_append, l5]; rfl
        have h6m : A6[0]? = some (mpK kvS vaR bm (cS S clk f) (uS S clk f none)) := by rw [← hA6, List.getElem?_append_left (by omega)]; exact h5m
        have g6 : ∀ t, t ≠ 0 → t < N → A6[t]? = A[t]? := fun t h0 ht => by rw [← hA6, List.getElem?_append_left (by omega), g5 t h0 ht]
        have r6 : A6[N + 4]? = some (.row int [w]) := by rw [← hA6, List.getElem?_append_right (by omega), l5]; simp
        rw [hA6]
        refine aOps_pureE rfl rfl rfl rfl rfl ?_
        refine aOps_mopN rfl rfl rfl (aact_setG (a := f) (d := none) (some (N + 4, 1)) (tok := 0) (off := 0) (bm := bm) (clk := clk) (S := S) rfl h6m hX.mo hfG (fun c w h => rel_int.1 h) rfl ?_)
        obtain ⟨A7, hA7⟩ : ∃ A7, A6.set 0 (mpK kvS vaR bm (cS S clk f) (pS S clk f (some (N + 4, 1)))) = A7 := ⟨_, rfl⟩
        have hX2 : NX m (wsF i (j + 1)) bm (cS S clk f) (pS S clk f (some (N + 4, 1))) A7 := by
          have := hX.step (A' := A7) w hf hfG (N + 4) (by omega) (by rw [hwn, ← hA7]; exact List.getElem?_set_self (by omega)) (fun q t l hq hg2 => by
            obtain ⟨q1, q2, q3, _⟩ := hX.row q t l hg2
            have q4 := get_lt q1
            rw [hN] at q4
            exact ⟨by rw [← hA7, List.getElem?_set_ne (Ne.symm q3), g6 t q3 q4], by omega⟩) (by rw [hwn, ← hA7, List.getElem?_set_ne (by omega)]; exact r6)
          rw [hwn] at this
          rw [hws]; exact this
        rw [hA7]
        (repeat' (first | exact trivial | refine And.intro ?_ ?_ | (intro hb; try simp at hb) | omega | exact rfl | refine aRegion_auto (by decide +kernel) ?_ | fail))
        refine ⟨(j + 1, cS S clk f, pS S clk f (some (N + 4, 1)), A7), ⟨by show j + 1 ≤ 2; omega, hX2⟩, by show 2 - (j + 1) < 2 - j; omega, Ent.sub rfl ?_⟩
        · (repeat' (first | exact trivial | exact rfl | refine And.intro ?_ ?_))
      | some tl =>
        obtain ⟨t, l⟩ := tl
        obtain ⟨q1, q2, q3, _⟩ := hX.row f t l hgv
        have q4 := get_lt q1
        rw [hN] at q4
        have hwl := wat_len m i j f
        obtain ⟨xs, hxs⟩ : ∃ xs, wat m (wsF i j) f = xs := ⟨_, rfl⟩
        rw [hxs] at q1 q2 hwl
        subst q2
        have hx5 : A5[t]? = some (.row int xs) := by rw [g5 t q3 q4]; exact q1
        refine aOps_pureE rfl rfl rfl rfl rfl ?_
        refine aOps_eff rfl rfl rfl (congrArg Kind.eff (aAppend_ref (e := int) (D := tab) (el := 3) (tok := t) (len := xs.length) (xs := xs) (ys := [w]) rfl rfl rfl (aSrc_ref (e := int) (ys := [w]) r5) hx5 rfl)) (runE_some ⟨by simp, Nat.le_refl _, by show xs.length + 1 ≤ 5864062014634; omega⟩ ?_)
        rw [l5]
        obtain ⟨A6, hA6⟩ : ∃ A6, A5.set t .dead ++ [AO.row int (List.take xs.length xs ++ [w])] = A6 := ⟨_, rfl⟩
        have l6 : A6.length = N + 5 := by rw [← hA6, List.length_append, List.length_set, l5]; rfl
        have h6m : A6[0]? = some (mpK kvS vaR bm (cS S clk f) (uS S clk f none)) := by rw [← hA6, List.getElem?_append_left (by rw [List.length_set]; omega), List.getElem?_set_ne q3]; exact h5m
        have g6 : ∀ u, u ≠ 0 → u ≠ t → u < N → A6[u]? = A[u]? := fun u h0 hut ht => by rw [← hA6, List.getElem?_append_left (by rw [List.length_set]; omega), List.getElem?_set_ne (Ne.symm hut), g5 u h0 ht]
        have r6 : A6[N + 4]? = some (.row int (xs ++ [w])) := by rw [← hA6, List.getElem?_append_right (by rw [List.length_set]; omega), List.length_set, l5, List.take_length]; simp
        refine (congrArg (fun Z => aOps _ _ _ _ _ _ _ Z _) hA6).mpr ?_
        refine aOps_pureE rfl rfl rfl rfl rfl ?_
        refine aOps_mopN rfl rfl rfl (aact_setG (a := f) (d := none) (some (N + 4, xs.length + 1)) (tok := 0) (off := 0) (bm := bm) (clk := clk) (S := S) rfl h6m hX.mo hfG (fun c w h => rel_int.1 h) rfl ?_)
        obtain ⟨A7, hA7⟩ : ∃ A7, A6.set 0 (mpK kvS vaR bm (cS S clk f) (pS S clk f (some (N + 4, xs.length + 1)))) = A7 := ⟨_, rfl⟩
        have hX2 : NX m (wsF i (j + 1)) bm (cS S clk f) (pS S clk f (some (N + 4, xs.length + 1))) A7 := by
          have := hX.step (A' := A7) w hf hfG (N + 4) (by omega) (by rw [hxs, ← hA7]; exact List.getElem?_set_self (by omega)) (fun q u l hq hg2 => by
            obtain ⟨p1, p2, p3, _⟩ := hX.row q u l hg2
            have p4 := get_lt p1
            rw [hN] at p4
            have hut : u ≠ t := fun e => hq (hX.inj q f u l xs.length hg2 (by rw [e]; exact hgv))
            exact ⟨by rw [← hA7, List.getElem?_set_ne (Ne.symm p3), g6 u p3 hut p4], by omega⟩) (by rw [hxs, ← hA7, List.getElem?_set_ne (by omega)]; exact r6)
          rw [hxs] at this
          rw [hws]; exact this
        rw [hA7]
        (repeat' (first | exact trivial | refine And.intro ?_ ?_ | (intro hb; try simp at hb) | omega | exact rfl | refine aRegion_auto (by decide +kernel) ?_ | fail))
        refine ⟨(j + 1, cS S clk f, pS S clk f (some (N + 4, xs.length + 1)), A7), ⟨by show j + 1 ≤ 2; omega, hX2⟩, by show 2 - (j + 1) < 2 - j; omega, Ent.sub rfl ?_⟩
        · (repeat' (first | exact trivial | exact rfl | refine And.intro ?_ ?_))
    · obtain rfl : j = 2 := by omega
      rw [wsF_two] at hX
      (repeat' (first | exact trivial | refine And.intro ?_ ?_ | (intro hb; try simp at hb) | omega | exact rfl | refine aRegion_auto (by decide +kernel) ?_ | fail))
      refine ⟨(i + 1, clk, S, A), ⟨by show i + 1 ≤ m.length; omega, hX⟩, by show m.length - (i + 1) < m.length - i; omega, Ent.sub rfl ?_⟩
      · (repeat' (first | exact trivial | exact rfl | refine And.intro ?_ ?_))
  · obtain rfl : i = m.length := by omega
    have hwf : wsF m.length 0 = Shp.wf m.length := by unfold wsF; rw [List.take_zero, List.append_nil]
    rw [hwf] at hX
    obtain ⟨N, hN⟩ : ∃ N, A.length = N := ⟨_, rfl⟩
    have hA0 := get_lt hX.map
    rw [hN] at hA0
    -- what holds of entries
    have hent : ∀ e ∈ S, ∀ t l, e.2.2 = some (t, l) → A[t]? = some (.row int (wat m (Shp.wf m.length) e.2.1)) ∧ l = (wat m (Shp.wf m.length) e.2.1).length ∧ t ≠ 0 ∧ 0 < l ∧ t < N := fun e he t l ht => by
      have h1 := gv_mem (d := none) hX.mo.nd e he
      rw [ht] at h1
      obtain ⟨q1, q2, q3, q4⟩ := hX.row e.2.1 t l h1
      have := get_lt q1
      exact ⟨q1, q2, q3, q4, by omega⟩
    have hinj : ∀ e ∈ S, ∀ e' ∈ S, ∀ t l l', e.2.2 = some (t, l) → e'.2.2 = some (t, l') → e.2.1 = e'.2.1 := fun e he e' he' t l l' h1 h2 => by
      have g1 := gv_mem (d := none) hX.mo.nd e he
      have g2 := gv_mem (d := none) hX.mo.nd e' he'
      rw [h1] at g1
      rw [h2] at g2
      exact hX.inj _ _ _ _ _ g1 g2
    have hkey : ∀ e ∈ S, ∀ e' ∈ S, e.2.1 = e'.2.1 → e = e' := fun e he e' he' h => by
      obtain ⟨a, ha⟩ := List.getElem?_of_mem he
      obtain ⟨b, hb⟩ := List.getElem?_of_mem he'
      have h1 : (S.map (·.2.1))[a]? = (S.map (·.2.1))[b]? := by rw [List.getElem?_map, List.getElem?_map, ha, hb]; simp [h]
      have h2 := (List.getElem?_inj (by simpa using get_lt ha) hX.mo.nd).1 h1
      subst h2
      rw [ha] at hb
      exact Option.some.inj hb
    have hstm : ∀ e ∈ S, ∀ e' ∈ S, e.1 = e'.1 → e = e' := fun e he e' he' h => by
      obtain ⟨a, ha⟩ := List.getElem?_of_mem he
      obtain ⟨b, hb⟩ := List.getElem?_of_mem he'
      have h1 : (S.map (·.1))[a]? = (S.map (·.1))[b]? := by rw [List.getElem?_map, List.getElem?_map, ha, hb]; simp [h]
      have h2 := (List.getElem?_inj (by simpa using get_lt ha) hX.mo.st).1 h1
      subst h2
      rw [ha] at hb
      exact Option.some.inj hb
    (repeat' (first | exact trivial | refine And.intro ?_ ?_ | (intro hb; try simp at hb) | omega | exact rfl | refine aRegion_auto (by decide +kernel) ?_ | fail))
    refine ⟨[(1, .fptr MpT m), (3, .ptr 0 0)], A, Ent.sub rfl ?_, ?_⟩
    · (repeat' (first | exact trivial | exact rfl | refine And.intro ?_ ?_))
    refine aReg_ops ?_
    refine aOps_mop rfl rfl rfl rfl (aact_make fun bm2 => ?_)
    refine aOps_pureE rfl rfl rfl rfl rfl ?_
    rw [hN]
    obtain ⟨A1, hA1⟩ : ∃ A1, A ++ [AO.mapo (.map bm2 0 []) []] = A1 := ⟨_, rfl⟩
    have l1 : A1.length = N + 1 := by rw [← hA1]; simp [hN]
    have g1 : ∀ t, t < N → A1[t]? = A[t]? := fun t ht => by rw [← hA1, List.getElem?_append_left (by omega)]
    have n1 : A1[N]? = some (inO bm2 0 []) := by rw [← hA1, List.getElem?_append_right (by omega), hN]; simp
    rw [hA1]
    refine ⟨[(1, .fptr MpT m), (3, .ptr 0 0), (10, .ptr N 0)], A1, Ent.sub rfl ?_, ?_⟩
    · (repeat' (first | exact trivial | exact rfl | refine And.intro ?_ ?_))
    refine aReg_ops ?_
    refine aOps_pureE rfl rfl rfl rfl rfl ?_
    refine aOps_mop rfl rfl rfl rfl (aact_range (tok := 0) (off := 0) (bm := bm) (clock := clk) (ks := S.map fun e => (e.1, kvS e.2.1)) (vs := S.map fun e => vaR e.2.2) rfl ((g1 0 hA0).trans hX.map) Tryd.underlying82 ?_)
    rw [l1]
    obtain ⟨A2, hA2⟩ : ∃ A2, A1 ++ [AO.mapo (.iter bm clk [] clk) []] = A2 := ⟨_, rfl⟩
    have l2 : A2.length = N + 2 := by rw [← hA2]; simp [l1]
    have g2 : ∀ t, t < N → A2[t]? = A[t]? := fun t ht => by rw [← hA2, List.getElem?_append_left (by omega), g1 t ht]
    have hY0 : NY m bm clk S bm2 N [] (fun _ => False) 0 [] A2 := ⟨(g2 0 hA0).trans hX.map, by rw [← hA2, List.getElem?_append_left (by omega)]; exact n1, by rw [← hA2, List.getElem?_append_right (by omega), l1]; simp, MO.nil, List.nodup_nil, fun x h => (by cases h), fun e he _ t l ht => by
      obtain ⟨q1, q2, q3, q4, q5⟩ := hent e he t l ht
      rw [g2 t q5]; exact q1, fun v _ h => h.elim⟩
    rw [hA2]
    refine ⟨List Nat × Nat × List (Nat × Int × Int) × List AO, fun x => ⟨[(1, .fptr MpT m), (3, .ptr 0 0), (10, .ptr N 0), (50, .ptr (N + 1) 0)], x.2.2.2⟩, fun x => NY m bm clk S bm2 N x.1 (fun v => ∃ e ∈ S, e.1 ∈ x.1 ∧ e.2.1 = Shp.frm m v) x.2.1 x.2.2.1 x.2.2.2 ∧ N + 2 ≤ x.2.2.2.length, fun x => S.length - x.1.length, ([], 0, [], A2), ⟨⟨hY0.map, hY0.nx, hY0.it, hY0.mo, hY0.nd, hY0.sub, hY0.row, fun v _ ⟨e, _, h, _⟩ => by cases h⟩, by show N + 2 ≤ A2.length; omega⟩, Ent.sub rfl ?_, ?_⟩
    · (repeat' (first | exact trivial | exact rfl | refine And.intro ?_ ?_))
    rintro ⟨seen, clk2, NS, A⟩ ⟨hY, hAl⟩
    have hY : NY m bm clk S bm2 N seen (fun v => ∃ e ∈ S, e.1 ∈ seen ∧ e.2.1 = Shp.frm m v) clk2 NS A := hY
    have hAl : N + 2 ≤ A.length := hAl
    show awp _ _ _ ⟨[(1, .fptr MpT m), (3, .ptr 0 0), (10, .ptr N 0), (50, .ptr (N + 1) 0)], A⟩
    refine ⟨[(1, .fptr MpT m), (3, .ptr 0 0), (10, .ptr N 0), (50, .ptr (N + 1) 0)], A, Ent.sub rfl ?_, ?_⟩
    · (repeat' (first | exact trivial | exact rfl | refine And.intro ?_ ?_))
    refine aReg_ops ?_
    refine aOps_mop rfl rfl rfl rfl (aact_next (tok := N + 1) (m := 0) (off := 0) (bm := bm) (since := clk) (clock := clk) (last := clk) (seen := seen) (ks := S.map fun e => (e.1, kvS e.2.1)) (vs := S.map fun e => vaR e.2.2) (us := []) rfl hY.it hY.map (fun y hy => ?_) (Nat.le_refl _) (fun hall => ?_) (fun y hy hn2 => ?_))
    · obtain ⟨e, he, rfl⟩ := List.mem_map.1 hy
      exact hX.mo.born e he
    · refine aOps_pureE rfl rfl rfl rfl rfl ?_
      (repeat' (first | exact trivial | refine And.intro ?_ ?_ | (intro hb; try simp at hb) | omega | exact rfl | refine aRegion_auto (by decide +kernel) ?_ | fail))
      refine ⟨.ptr 0 0, [inO bm2 clk2 NS], REnt.ren [N] ?_ ?_ ?_, hK bm2 clk2 NS hY.mo (fun v hv => ?_)⟩
      · show renB [N] 0 [inO bm2 clk2 NS] = true
        have hb1 : Nat.blt 0 0 = false := rfl
        have hb2 : Nat.beq 0 0 = true := rfl
        simp only [renB, rmB, List.length_singleton, show List.range 1 = [0] from rfl, List.all_cons, List.all_nil, hb1, hb2, Bool.not_false, Bool.true_or, Bool.or_true, Bool.and_true]
        rfl
      · exact ⟨by rw [show nameOf [N] 0 = N from rfl, hY.nx]; exact congrArg some (mpK_same (t := int) (g := fun v => v) _).symm, mpK_ok (kv := kvI) (t := int) (g := fun v => v) (bm := bm2) (clk := clk2), trivial⟩
      · exact ⟨rfl, rfl⟩
      · have hu := neg_way hv
        obtain ⟨e, he, hek⟩ := gv_ex hX.mo (k := Shp.frm m (-v)) (d := none) (fun h => by
          have := hX.non _ h
          have h2 : -v ∈ wat m (Shp.wf m.length) (Shp.frm m (-v)) := mem_wat.2 ⟨hu, rfl⟩
          rw [this] at h2; cases h2)
        have := hY.val (-v) hu ⟨e, he, hall (e.1, kvS e.2.1) (List.mem_map.2 ⟨e, he, rfl⟩), hek⟩
        rwa [Int.neg_neg] at this
    · obtain ⟨e, he, rfl⟩ := List.mem_map.1 hy
      have hn2 : e.1 ∉ seen := hn2
      obtain ⟨st, p, r⟩ := e
      have hn2 : st ∉ seen := hn2
      cases r with
      | none => exact (hX.all _ he rfl).elim
      | some tl =>
      obtain ⟨t, l⟩ := tl
      obtain ⟨r1, r2, r3, r4, r5⟩ := hent _ he t l rfl
      have r60 := hY.row _ he hn2 t l rfl
      obtain ⟨xs, hxs⟩ : ∃ xs, wat m (Shp.wf m.length) p = xs := ⟨_, rfl⟩
      have r2 : l = (wat m (Shp.wf m.length) p).length := r2
      have r6 : A[t]? = some (.row int (wat m (Shp.wf m.length) p)) := r60
      clear r60
      have hxw : ∀ v ∈ xs, wayAt m p v := fun v hv => mem_wat.1 (by rw [hxs]; exact hv)
      have hxl := wat_len m m.length 0 p
      rw [hwf] at hxl
      rw [hxs] at r2 r6 hxl
      subst r2
      have hpp : plB p = true := by
        have := hxw _ (List.getElem_mem (show 0 < xs.length from r4))
        rw [← this.2]; exact frm_pl B this.1
      -- the iterator goes on
      obtain ⟨A3, hA3⟩ : ∃ A3, A.set (N + 1) (.mapo (.iter bm clk (seen ++ [st]) clk) []) = A3 := ⟨_, rfl⟩
      have l3 : A3.length = A.length := by rw [← hA3, List.length_set]
      have g3 : ∀ u, u ≠ N + 1 → A3[u]? = A[u]? := fun u hu => by rw [← hA3, List.getElem?_set_ne (Ne.symm hu)]
      have i3 : A3[N + 1]? = some (.mapo (.iter bm clk (seen ++ [st]) clk) []) := by rw [← hA3, List.getElem?_set_self (by omega)]
      have m3 : A3[0]? = some (mpK kvS vaR bm clk S) := (g3 0 (by omega)).trans hY.map
      refine (congrArg (fun Z => aOps _ _ _ _ _ _ _ Z _) hA3).mpr ?_
      refine aOps_pureE rfl rfl rfl rfl rfl ?_
      (repeat' (first | exact trivial | refine And.intro ?_ ?_ | (intro hb; try simp at hb) | omega | exact rfl | refine aRegion_auto (by decide +kernel) ?_ | fail))
      refine ⟨[(1, .fptr MpT m), (3, .ptr 0 0), (10, .ptr N 0), (50, .ptr (N + 1) 0)], A3, Ent.sub rfl ?_, ?_⟩
      · (repeat' (first | exact trivial | exact rfl | refine And.intro ?_ ?_))
      refine aReg_ops ?_
      refine aOps_mop rfl rfl rfl rfl (aact_entry (tok := N + 1) (m := 0) (off := 0) (bm := bm) (since := clk) (clock := clk) (b0 := st) (s := seen) (ks := S.map fun e => (e.1, kvS e.2.1)) (vs := S.map fun e => vaR e.2.2) (us := []) (kf := fun v => match v with | .agg xs => .agg (xs.toList.map fun x => match x with | .int _ z => .fz int z | _ => .unk) | _ => .unk) rfl i3 m3 ⟨_, List.mem_map.2 ⟨_, he, rfl⟩, rfl⟩ (fun y hy c => ?_) (fun j y av hj hy hav => ?_))
      · obtain ⟨e', _, rfl⟩ := List.mem_map.1 hy
        show Rel c (.agg [.fz int e'.2.1.1, .fz int e'.2.1.2]) (.agg #[.int .i64 e'.2.1.1, .int .i64 e'.2.1.2])
        unfold Rel
        refine ⟨[.int .i64 e'.2.1.1, .int .i64 e'.2.1.2], rfl, ?_⟩
        unfold RelL
        refine ⟨_, _, rfl, rel_int.2 rfl, ?_⟩
        unfold RelL
        refine ⟨_, _, rfl, rel_int.2 rfl, ?_⟩
        unfold RelL; rfl
      · obtain ⟨e', he', rfl⟩ := mpK_ix hj
        have hee := hstm e' (List.mem_of_getElem? he') _ he hy
        subst hee
        have hav : av = .ref t 0 xs.length := by
          rw [List.getElem?_map, he'] at hav
          simpa [vaR] using hav.symm
        subst hav
        have hzr : tzero tab 46 = some [.fz int 0, .fz int 0] := rfl
        obtain ⟨M, hM⟩ : ∃ M, A3.length = M := ⟨_, rfl⟩
        have hMl : N + 2 ≤ M := by omega
        have b4 : (A3 ++ [AO.box [AV.fz int 0, AV.fz int 0]])[M]? = some (AO.box [AV.fz int 0, AV.fz int 0]) := by rw [List.getElem?_append_right (by omega), hM]; simp
        refine aOps_pureE rfl rfl rfl rfl rfl ?_
        refine aOps_pureE rfl rfl rfl rfl rfl ?_
        refine aOps_eff rfl rfl rfl (congrArg Kind.eff (aAlloc_eq hzr)) (runE_none ?_)
        rw [hM]
        refine aOps_effN rfl rfl (congrArg Kind.eff (aStore_eq b4 rfl rfl rfl rfl)) (runE_none ?_)
        obtain ⟨A4, hA4⟩ : ∃ A4, (A3 ++ [AO.box [AV.fz int 0, AV.fz int 0]]).set M (bx2 p) = A4 := ⟨_, rfl⟩
        have b5 : A4[M]? = some (bx2 p) := by rw [← hA4, List.getElem?_set_self (by simp [hM])]
        have g4 : ∀ u, u < M → A4[u]? = A3[u]? := fun u hu => by rw [← hA4, List.getElem?_set_ne (by omega), List.getElem?_append_left (by omega)]
        refine (congrArg (fun Z => aOps _ _ _ _ _ _ _ Z _) hA4).mpr ?_
        refine aOps_pureE rfl rfl rfl rfl rfl ?_
        obtain ⟨A5, hA5⟩ : ∃ A5, A4.set M .dead = A5 := ⟨_, rfl⟩
        have g5 : ∀ u, u < M → A5[u]? = A3[u]? := fun u hu => by rw [← hA5, List.getElem?_set_ne (by omega), g4 u hu]
        refine ⟨[(11, .fptr SpT p), (1, .fptr MpT m), (3, .ptr 0 0), (10, .ptr N 0), (50, .ptr (N + 1) 0), (11, .ptr M 0), (12, .ref t 0 xs.length)], A5, Ent.trans (Ent.sub (T' := [(1, .fptr MpT m), (3, .ptr 0 0), (10, .ptr N 0), (50, .ptr (N + 1) 0), (11, .ptr M 0), (12, .ref t 0 xs.length)]) rfl ?_) (hA5 ▸ Ent.conv 11 (.pt SpT) none (conv1_spot b5) trivial), ?_⟩
        · (repeat' (first | exact trivial | exact rfl | refine And.intro ?_ ?_))
        have x5 : A5[t]? = some (.row int xs) := by rw [g5 t (by omega), g3 t (by omega)]; exact r6
        refine aReg_ops ?_
        refine aOps_pureE rfl rfl rfl rfl rfl ?_
        refine aOps_pureE rfl rfl rfl rfl rfl ?_
        refine sort_lend _ m B R p hpp A5 t xs x5 hxw r4 (by omega) _ fun ys y1 y2 => ?_
        refine force_of _ _ _ ?_
        have hyl := y1.length_eq
        obtain ⟨A6, hA6⟩ : ∃ A6, A5.set t (.row int ys) = A6 := ⟨_, rfl⟩
        have x6 : A6[t]? = some (.row int ys) := by rw [← hA6, List.getElem?_set_self (get_lt x5)]
        have g6 : ∀ u, u < M → u ≠ t → A6[u]? = A3[u]? := fun u hu hut => by rw [← hA6, List.getElem?_set_ne (Ne.symm hut), g5 u hu]
        obtain ⟨A7, hA7⟩ : ∃ A7, A6.set t .dead = A7 := ⟨_, rfl⟩
        have g7 : ∀ u, u < M → u ≠ t → A7[u]? = A3[u]? := fun u hu hut => by rw [← hA7, List.getElem?_set_ne (Ne.symm hut), g6 u hu hut]
        have l7 : N + 2 ≤ A7.length := by
          rw [← hA7, List.length_set, ← hA6, List.length_set, ← hA5, List.length_set, ← hA4, List.length_set, List.length_append]
          omega
        have hcv : conv1 A6 (.dat (.list int)) (.ref t 0 xs.length) = (andC (some (0 + xs.length ≤ List.length ys)) none, some (.fz (.list int) ys), A7) := by
          rw [conv1_ref x6, List.drop_zero, List.take_of_length_le (by omega), hA7]
        refine (congrArg (fun Z => aOps _ _ _ _ _ _ _ Z _) hA6).mpr ?_
        refine ⟨[(12, .fz (.list int) ys), (1, .fptr MpT m), (3, .ptr 0 0), (10, .ptr N 0), (50, .ptr (N + 1) 0), (12, .ref t 0 xs.length)], A7, Ent.trans (Ent.sub (T' := [(1, .fptr MpT m), (3, .ptr 0 0), (10, .ptr N 0), (50, .ptr (N + 1) 0), (12, .ref t 0 xs.length)]) rfl ?_) (Ent.conv 12 (.dat (.list int)) _ hcv (by show 0 + xs.length ≤ _; omega)), ?_⟩
        · (repeat' (first | exact trivial | exact rfl | refine And.intro ?_ ?_))
        have hst9 : ∀ x ∈ seen ++ [st], x ∈ S.map (·.1) := fun x hx => by
          rcases List.mem_append.1 hx with h | h
          · exact hY.sub x h
          · simp at h; subst h; exact List.mem_map.2 ⟨_, he, rfl⟩
        have hnd9 : (seen ++ [st]).Nodup := by
          rw [List.nodup_append]
          refine ⟨hY.nd, by simp, fun a ha b hb => ?_⟩
          simp at hb; subst hb
          rintro rfl
          exact hn2 ha
        have hsl : seen.length < S.length := by
          have h := len_subN _ _ hnd9 hst9
          simp at h
          omega
        have hY7 : NY m bm clk S bm2 N (seen ++ [st]) (fun v => (∃ e ∈ S, e.1 ∈ seen ∧ e.2.1 = Shp.frm m v) ∨ v ∈ ys.take 0) clk2 NS A7 := ⟨by rw [g7 0 (by omega) (by omega)]; exact m3, by rw [g7 N (by omega) (by omega), g3 N (by omega)]; exact hY.nx, by rw [g7 (N + 1) (by omega) (by omega)]; exact i3, hY.mo, hnd9, hst9, fun e9 he9 hs' t' l' ht' => by
          obtain ⟨q1, q2, q3, q4, q5⟩ := hent e9 he9 t' l' ht'
          have hs1 : e9.1 ∉ seen := fun h => hs' (List.mem_append_left _ h)
          have htt : t' ≠ t := fun e => by
            rw [e] at ht'
            have h1 := hkey e9 he9 _ he (hinj e9 he9 _ he t l' xs.length ht' rfl)
            exact hs' (List.mem_append_right _ (by rw [h1]; simp))
          rw [g7 t' (by omega) htt, g3 t' (by omega)]
          exact hY.row e9 he9 hs1 t' l' ht', fun v hv hD => hY.val v hv (hD.resolve_right (by simp))⟩
        have hnxt := fun (i : Nat) (hi : i < ys.length) => next_ok R (by rw [hxs]; exact y1) y2 hi
        have hyw : ∀ v, v ∈ ys ↔ wayAt m p v := fun v => by rw [y1.mem_iff, ← hxs]; exact mem_wat
        (repeat' (first | exact trivial | refine And.intro ?_ ?_ | (intro hb; try simp at hb) | omega | exact rfl | refine aRegion_auto (by decide +kernel) ?_ | fail))
        refine ⟨Nat × Nat × List (Nat × Int × Int) × List AO, fun x => ⟨[(1, .fptr MpT m), (3, .ptr 0 0), (10, .ptr N 0), (50, .ptr (N + 1) 0), (12, .fz (.list int) ys), (59, .fz (.list int) ys), (60, .fz int ys.length), (61, .fz int x.1)], x.2.2.2⟩, fun x => x.1 ≤ ys.length ∧ NY m bm clk S bm2 N (seen ++ [st]) (fun v => (∃ e ∈ S, e.1 ∈ seen ∧ e.2.1 = Shp.frm m v) ∨ v ∈ ys.take x.1) x.2.1 x.2.2.1 x.2.2.2 ∧ N + 2 ≤ x.2.2.2.length, fun x => ys.length - x.1, (0, clk2, NS, A7), ⟨Nat.zero_le _, hY7, l7⟩, Ent.sub rfl ?_, ?_⟩
        · (repeat' (first | exact trivial | exact rfl | refine And.intro ?_ ?_))
        rintro ⟨i, clk3, NS3, A8⟩ ⟨hi, hY8, l8⟩
        have hi : i ≤ ys.length := hi
        have hY8 : NY m bm clk S bm2 N (seen ++ [st]) (fun v => (∃ e ∈ S, e.1 ∈ seen ∧ e.2.1 = Shp.frm m v) ∨ v ∈ ys.take i) clk3 NS3 A8 := hY8
        have l8 : N + 2 ≤ A8.length := l8
        show awp _ _ _ ⟨[(1, .fptr MpT m), (3, .ptr 0 0), (10, .ptr N 0), (50, .ptr (N + 1) 0), (12, .fz (.list int) ys), (59, .fz (.list int) ys), (60, .fz int ys.length), (61, .fz int i)], A8⟩
        by_cases hil : i < ys.length
        · obtain ⟨w, hw⟩ : ∃ w, ys[i] = w := ⟨_, rfl⟩
          have hwm : w ∈ ys := by rw [← hw]; exact List.getElem_mem hil
          have hww := (hyw w).1 hwm
          have hwb := hww.1.2
          have hgw : List.getD ys (Int.toNat (i : Int)) int.dft = w := by rw [Int.toNat_natCast, List.getD_eq_getElem?_getD, List.getElem?_eq_getElem hil]; exact hw
          have hm9 : (i + ys.length - 1) % ys.length < ys.length := Nat.mod_lt _ (by omega)
          have hrem : List.getD ys (Int.toNat (Int.tmod ((i : Int) + ((ys.length : Nat) : Int) - 1) ((ys.length : Nat) : Int))) int.dft = Shp.nof m (-w) := by
            rw [tmod_prev (by omega), Int.toNat_natCast, List.getD_eq_getElem?_getD, List.getElem?_eq_getElem hm9, ← hw, hnxt i hil]; rfl
          have htp := tmod_prev (i := i) (n := ys.length) (by omega)
          have hgN : iG (-w) := by unfold iG; omega
          have hne : ys ≠ [] := fun e => by rw [e] at hil; simp at hil
          have hneg : (0 : Int) - w = -w := by omega
          (repeat' (first | exact trivial | refine And.intro ?_ ?_ | (intro hb; try simp at hb) | omega | exact rfl | refine aRegion_auto (by decide +kernel) ?_ | fail))
          · exact hne hb
          refine aact_putG (-w) (Shp.nof m (-w)) (tok := N) (off := 0) (bm := bm2) (clk := clk3) (S := NS3) rfl hY8.nx hY8.mo Tryd.underlying56 keyedI kvI_in iG_ok (fun c v h => ?_) hgN (congrArg (fun z => AV.fz int z) hrem) ?_
          · have h := rel_kvI c v h
            rw [h]
            exact congrArg kvI ((congrArg (fun z => (0 : Int) - z) hgw).trans hneg)
          refine force_of _ _ _ ?_
          (repeat' (first | exact trivial | refine And.intro ?_ ?_ | (intro hb; try simp at hb) | omega | exact rfl | refine aRegion_auto (by decide +kernel) ?_ | fail))
          refine ⟨(i + 1, _, _, _), ⟨by show i + 1 ≤ ys.length; omega, (hY8.put (w := w) (by omega) (fun e9 he9 t' l' h => by have := (hent e9 he9 t' l' h).2.2.2.2; omega) hgN).weak (fun v _ hv => ?_), by rw [List.length_set]; exact l8⟩, by show ys.length - (i + 1) < ys.length - i; omega, Ent.sub rfl ?_⟩
          · have hv : (∃ e ∈ S, e.1 ∈ seen ∧ e.2.1 = Shp.frm m v) ∨ v ∈ ys.take (i + 1) := hv
            rw [List.take_add_one, List.getElem?_eq_getElem hil, hw] at hv
            rcases hv with hv | hv
            · exact .inl (.inl hv)
            · rcases List.mem_append.1 hv with hv | hv
              · exact .inl (.inr hv)
              · simp at hv; exact .inr hv
          · (repeat' (first | exact trivial | exact rfl | refine And.intro ?_ ?_))
        · obtain rfl : i = ys.length := by omega
          (repeat' (first | exact trivial | refine And.intro ?_ ?_ | (intro hb; try simp at hb) | omega | exact rfl | refine aRegion_auto (by decide +kernel) ?_ | fail))
          refine ⟨(seen ++ [st], clk3, NS3, A8), ⟨hY8.weak fun v hv ⟨e', he', h1, h2⟩ => ?_, l8⟩, by show S.length - (seen ++ [st]).length < S.length - seen.length; rw [List.length_append, List.length_singleton]; omega, Ent.sub rfl ?_⟩
          · rcases List.mem_append.1 h1 with h | h
            · exact .inl ⟨e', he', h, h2⟩
            · simp at h
              have := hstm e' he' _ he h
              rw [List.take_length]
              exact .inr ((hyw v).2 ⟨hv, by rw [← h2, this]⟩)
          · (repeat' (first | exact trivial | exact rfl | refine And.intro ?_ ?_))
end Go.Proofs.YtcfalmdfohphoaaDoor
/-
  Plain facts on going around, step by step.
-/
namespace Shp
/-- one way more to begin at -/
def rst (nf : Int → Int) (n : Nat) (s : List (List Int) × List Int) (w : Int) : List (List Int) × List Int :=
  (s.1 ++ ad (rd nf (2 * n + 1 - s.2.length) s.2 w), (rd nf (2 * n + 1 - s.2.length) s.2 w).reverse ++ s.2)
def rF (nf : Int → Int) (n i j : Nat) : List (List Int) × List Int := (wf i ++ [(i : Int) + 1, -((i : Int) + 1)].take j).foldl (rst nf n) ([], [])
theorem rF_zero (nf : Int → Int) (n i : Nat) : rF nf n i 0 = (wf i).foldl (rst nf n) ([], []) := by unfold rF; rw [List.take_zero, List.append_nil]
theorem rF_two (nf : Int → Int) (n i : Nat) : rF nf n i 2 = rF nf n (i + 1) 0 := by rw [rF_zero]; rfl
theorem rF_one (nf : Int → Int) (n i : Nat) : rF nf n i 1 = rst nf n (rF nf n i 0) ((i : Int) + 1) := by
  unfold rF; rw [List.take_zero, List.append_nil, List.foldl_append]; rfl
theorem rF_last (nf : Int → Int) (n i : Nat) : rF nf n i 2 = rst nf n (rF nf n i 1) (-((i : Int) + 1)) := by
  unfold rF; rw [List.foldl_append, List.foldl_append]; rfl
theorem rst_fold (nf : Int → Int) (n : Nat) : ∀ (ws : List Int) (s : List (List Int) × List Int), (ws.foldl (rst nf n) s).1 = s.1 ++ rnd nf n ws s.2
  | [], s => by simp [rnd]
  | w :: ws, s => by
    rw [List.foldl_cons, rst_fold nf n ws]
    exact List.append_assoc _ _ _
theorem rF_rounds (nf : Int → Int) (n : Nat) : (rF nf n n 0).1 = rounds nf n := by
  rw [rF_zero, rst_fold, List.nil_append]; rfl
theorem rst_gn {n : Nat} {nf : Int → Int} (hnf : ways n nf) {s : List (List Int) × List Int} (h : Gn n s.2) {w : Int} (hw : w ≠ 0 ∧ w.natAbs ≤ n) : Gn n (rst nf n s w).2 := rd_gone hnf _ _ _ h hw
/-- a round half gone -/
structure RH (nf : Int → Int) (n : Nat) (g : List Int) (w : Int) (l : List Int) (v : Int) : Prop where
  rest : rd nf (2 * n + 1 - g.length) g w = l ++ rd nf (2 * n + 1 - (l.length + g.length)) (l.reverse ++ g) v
  gn : Gn n (l.reverse ++ g)
  way : v ≠ 0 ∧ v.natAbs ≤ n
theorem RH.start {nf : Int → Int} {n : Nat} {g : List Int} {w : Int} (hg : Gn n g) (hw : w ≠ 0 ∧ w.natAbs ≤ n) : RH nf n g w [] w := ⟨by simp, hg, hw⟩
theorem RH.len {nf : Int → Int} {n : Nat} {g : List Int} {w v : Int} {l : List Int} (h : RH nf n g w l v) : l.length + g.length ≤ 2 * n := by
  have := h.gn.len
  simpa using this
theorem RH.next {nf : Int → Int} {n : Nat} (hnf : ways n nf) {g : List Int} {w v : Int} {l : List Int} (h : RH nf n g w l v) (hv : v ∉ l.reverse ++ g) : RH nf n g w (l ++ [v]) (nf v) := by
  have hl := h.len
  have e : (l ++ [v]).reverse ++ g = v :: (l.reverse ++ g) := by simp
  refine ⟨?_, ?_, hnf v h.way⟩
  · rw [h.rest, e]
    obtain ⟨f, hf⟩ : ∃ f, 2 * n + 1 - (l.length + g.length) = f + 1 := ⟨2 * n - (l.length + g.length), by omega⟩
    rw [hf, rd_out hv, show 2 * n + 1 - ((l ++ [v]).length + g.length) = f by simp; omega, List.append_assoc]
    rfl
  · rw [e]; exact h.gn.cons h.way hv
theorem RH.done {nf : Int → Int} {n : Nat} {g : List Int} {w v : Int} {l : List Int} (h : RH nf n g w l v) (hv : v ∈ l.reverse ++ g) : rd nf (2 * n + 1 - g.length) g w = l := by
  rw [h.rest, rd_in hv, List.append_nil]
/-- what is gone, as a row -/
def gR (n : Nat) (g : List Int) : List Bool := (List.range (2 * n + 1)).map fun t : Nat => decide (((t : Int) - (n : Int)) ∈ g)
theorem gR_len (n : Nat) (g : List Int) : (gR n g).length = 2 * n + 1 := by simp [gR]
theorem gR_get {n : Nat} {g : List Int} {v : Int} (hv : v.natAbs ≤ n) (d : Bool) : (gR n g).getD ((v + (n : Int)).toNat) d = decide (v ∈ g) := by
  unfold gR
  rw [List.getD_eq_getElem?_getD, List.getElem?_map, List.getElem?_range (by omega)]
  simp only [Option.map_some, Option.getD_some]
  rw [show (((v + (n : Int)).toNat : Nat) : Int) - (n : Int) = v by omega]
theorem gR_set {n : Nat} {g : List Int} {v : Int} (hv : v.natAbs ≤ n) : (gR n g).set ((v + (n : Int)).toNat) true = gR n (v :: g) := by
  apply List.ext_getElem?
  intro t
  unfold gR
  rw [List.getElem?_set, List.getElem?_map, List.getElem?_map]
  by_cases ht : (v + (n : Int)).toNat = t
  · rw [if_pos ht, if_pos (by simp; omega), ← ht, List.getElem?_range (by omega)]
    simp only [Option.map_some, Option.some.injEq]
    symm
    rw [decide_eq_true_eq, show (((v + (n : Int)).toNat : Nat) : Int) - (n : Int) = v by omega]
    exact List.mem_cons_self ..
  · rw [if_neg ht]
    rcases Nat.lt_or_ge t (2 * n + 1) with h | h
    · rw [List.getElem?_range h]
      simp only [Option.map_some, Option.some.injEq]
      refine decide_eq_decide.2 ?_
      rw [List.mem_cons]
      constructor
      · exact .inr
      · rintro (h2 | h2)
        · omega
        · exact h2
    · rw [List.getElem?_eq_none (by simpa using h)]; rfl
theorem gR_nil (n : Nat) : gR n [] = List.replicate (2 * n + 1) false := by
  apply List.ext_getElem?
  intro t
  unfold gR
  rw [List.getElem?_map, List.getElem?_replicate]
  by_cases h : t < 2 * n + 1
  · rw [List.getElem?_range h, if_pos h]; simp
  · rw [List.getElem?_eq_none (by simpa using h), if_neg h]; rfl
theorem rd_len (nf : Int → Int) : ∀ (f : Nat) (g : List Int) (w : Int), (rd nf f g w).length ≤ f
  | 0, _, _ => Nat.le_refl _
  | f + 1, g, w => by
    by_cases h : w ∈ g
    · rw [rd_in h]; exact Nat.zero_le _
    · rw [rd_out h, List.length_cons]
      have := rd_len nf f (w :: g) (nf w)
      omega
theorem rnd_mem {n : Nat} {nf : Int → Int} (hnf : ways n nf) : ∀ (ws : List Int), (∀ w ∈ ws, w ≠ 0 ∧ w.natAbs ≤ n) → ∀ g, ∀ l ∈ rnd nf n ws g, (∀ v ∈ l, v ≠ 0 ∧ v.natAbs ≤ n) ∧ l.length ≤ 2 * n + 1
  | [], _, g, l, hl => by cases hl
  | w :: ws, hw, g, l, hl => by
    unfold rnd at hl
    rcases List.mem_append.1 hl with h | h
    · unfold ad at h
      split at h
      · cases h
      · simp at h
        subst h
        exact ⟨rd_way hnf _ _ _ (hw w (List.mem_cons_self ..)), Nat.le_trans (rd_len nf _ _ _) (by omega)⟩
    · exact rnd_mem hnf ws (fun v hv => hw v (List.mem_cons_of_mem _ hv)) _ l h
theorem rounds_mem {n : Nat} {nf : Int → Int} (hnf : ways n nf) : ∀ l ∈ rounds nf n, (∀ v ∈ l, v ≠ 0 ∧ v.natAbs ≤ n) ∧ l.length ≤ 2 * n + 1 := rnd_mem hnf _ (fun w hw => (mem_wf n w).1 hw) []
theorem rnd_len (nf : Int → Int) (n : Nat) : ∀ (ws g : List Int), (rnd nf n ws g).length ≤ ws.length
  | [], g => Nat.le_refl _
  | w :: ws, g => by
    unfold rnd
    rw [List.length_append, List.length_cons]
    have h1 := rnd_len nf n ws ((rd nf (2 * n + 1 - g.length) g w).reverse ++ g)
    have h2 : (ad (rd nf (2 * n + 1 - g.length) g w)).length ≤ 1 := by unfold ad; split <;> simp
    omega
theorem rounds_len (nf : Int → Int) (n : Nat) : (rounds nf n).length ≤ 2 * n := by
  have := rnd_len nf n (wf n) []
  rw [wf_length] at this
  exact this
end Shp
/-
  Faces: the walk.
-/
namespace Go.Proofs.YtcfalmdfohphoaaDoor
open Go Go.Ab Mp
set_option maxRecDepth 100000
theorem in_same {bm clk : Nat} {S : List (Nat × Int × Int)} (f : Nat → Nat) : mapO f (inO bm clk S) = inO bm clk S := mpK_same (t := int) (g := fun v => v) f
theorem in_ok {bm clk n : Nat} {S : List (Nat × Int × Int)} : okLB n (inO bm clk S).vals = true := mpK_ok (kv := kvI) (t := int) (g := fun v => v)
theorem zero_intI (c : Cx) : ∃ zv, (zeroValue 3).run Tryd.prog c.w = .ok zv c.w ∧ Rel c (.fz (.int .i64) (0 : Int)) zv := zero_int c
theorem right_of {m : Shp.Arcs} (h : Shp.vE ngB m = 0) : MB m ∧ Shp.Right m := by
  obtain ⟨⟨h1, h2⟩, h3, h4, h5⟩ := Shp.vE_zero h
  have B := MB_of h1 h2 h3
  refine ⟨B, B.two, fun i hi e => ?_, fun i k ⟨h6, h7⟩ => ((Shp.badA_iff _ _).1 (h3 i h6)).2.2.2 k h7, h4, h5⟩
  have := ((Shp.badA_iff _ _).1 (h3 i hi)).2.2.1
  exact Nat.le_of_not_lt fun c => this ⟨e, c⟩
set_option maxHeartbeats 8000000 in
theorem faces_any (E : Errs) (m : Shp.Arcs) (hl : m.length ≤ 1000000000000000) (hlen : ∀ i, i < m.length → (Shp.arc m i).length ≤ 8796093022208) (K : AV → List AO → Prop)
    (hK0 : Shp.vE ngB m = 0 → K (.tup [.fz (.list (.list int)) (Shp.rounds (Shp.nof m) m.length), .fz .raw .nilIface]) [])
    (hK1 : Shp.vE ngB m ≠ 0 → K (.tup [.nilSl, .fz .raw (er E (Shp.vE ngB m))]) []) : ACall Tryd.prog (G8 E) 10 [.fz MpT m] [] K := by
  refine acall_mk (E := envCut (G8 E) 62 0 [13]) (envCutOk _ _ _ _) Tryd.func10 rfl rfl rfl rfl rfl ?_
  refine acall_conv [.dat MpT] _ _ _ rfl trivial (acall_frame0 rfl (valid_any E m hl hlen _ ?_))
  by_cases hv : Shp.vE ngB m = 0
  · have hK := hK0 hv
    obtain ⟨B, R⟩ := right_of hv
    rw [hv]
    have hfew := B.few
    have hnf := Shp.nof_way (m := m)
    have hrc := fun (nf' : Int → Int) (h : ∀ w, w ≠ 0 ∧ w.natAbs ≤ m.length → Shp.nof m w = nf' w) => Shp.rounds_congr (n := m.length) hnf h
    (repeat' (first | exact trivial | refine And.intro ?_ ?_ | (intro hb; try simp at hb) | omega | exact rfl | refine aRegion_auto (by decide +kernel) ?_ | fail))
    refine acall_conv [.dat MpT] _ _ _ rfl trivial (acall_frame0 rfl (nexts_any _ m B R _ fun bm clk NS hM hN => ?_))
    refine force_of _ _ _ ?_
    show aOps _ _ _ _ _ _ _ [.box [.fz (.list (.list SpT)) m], mapO _ (inO bm clk NS)] _
    rw [in_same]
    refine aact_make fun bm2 => ?_
    (repeat' (first | exact trivial | refine And.intro ?_ ?_ | (intro hb; try simp at hb) | omega | exact rfl | refine aRegion_auto (by decide +kernel) ?_ | fail))
    (repeat' (first | exact trivial | refine And.intro ?_ ?_ | (intro hb; try simp at hb) | omega | exact rfl | refine aRegion_auto (by decide +kernel) ?_ | fail))
    obtain ⟨n, hn⟩ : ∃ n, m.length = n := ⟨_, rfl⟩
    obtain ⟨nf, hnn⟩ : ∃ nf : Int → Int, nf = fun v => gv NS v 0 := ⟨_, rfl⟩
    have hnv : ∀ v, gv NS v 0 = nf v := fun v => by rw [hnn]
    have hnw : ∀ v, v ≠ 0 ∧ v.natAbs ≤ n → Shp.nof m v = nf v := fun v hv => by rw [hnn]; exact (hN v ⟨hv.1, by rw [hn]; exact hv.2⟩).symm
    have hR := hrc nf (fun w hw => hnw w (by rw [← hn]; exact hw))
    rw [hn] at hnf hR hK hfew
    rw [hR] at hK
    have hnf2 : Shp.ways n nf := fun w hw => by rw [← hnw w hw]; exact hnf w hw
    clear hrc hR
    have hig : ∀ v : Int, v.natAbs ≤ n → iG v := fun v hv => by unfold iG; omega
    refine ⟨Nat × (List (List Int) × List Int) × Nat × List (Nat × Int × Int), fun x => ⟨[(5, .ptr 0 0), (6, .ptr 1 0), (7, .ref 2 0 x.2.1.1.length), (22, .fz (.list (.list SpT)) m), (23, .fz int m.length), (24, .fz int x.1)], [inO bm clk NS, inO bm2 x.2.2.1 x.2.2.2, .row (.list int) x.2.1.1]⟩, fun x => x.1 ≤ n ∧ (x.2.1 = Shp.rF nf n x.1 0 ∧ Shp.Gn n x.2.1.2 ∧ x.2.1.1.length ≤ 2 * x.1) ∧ MO iG x.2.2.1 x.2.2.2 ∧ ∀ v, gv x.2.2.2 v 0 = if v ∈ x.2.1.2 then 1 else 0, fun x => n - x.1, (0, ([], []), 0, []), ⟨Nat.zero_le _, ⟨rfl, ⟨List.nodup_nil, fun v h => by cases h⟩, Nat.le_refl _⟩, MO.nil, fun v => by simp [gv]⟩, (Ent.nil 7 (.list int) rfl).trans (Ent.ren [1, 2, 3] rfl ?_ ?_), ?_⟩
    · (repeat' (first | exact trivial | exact rfl | refine And.intro ?_ ?_))
      · exact congrArg some (in_same _).symm
      · exact in_ok (bm := bm) (clk := clk)
    · (repeat' (first | exact trivial | exact rfl | refine And.intro ?_ ?_))
    rintro ⟨i, ⟨o, g⟩, c2, GS⟩ ⟨hi, ⟨hst, hg, hol⟩, hM2, hG⟩
    have hi : i ≤ n := hi
    have hst : (o, g) = Shp.rF nf n i 0 := hst
    have hg : Shp.Gn n g := hg
    have hol : o.length ≤ 2 * i := hol
    have hM2 : MO iG c2 GS := hM2
    have hG : ∀ v, gv GS v 0 = if v ∈ g then 1 else 0 := hG
    show awp _ _ _ ⟨[(5, .ptr 0 0), (6, .ptr 1 0), (7, .ref 2 0 o.length), (22, .fz (.list (.list SpT)) m), (23, .fz int m.length), (24, .fz int i)], [inO bm clk NS, inO bm2 c2 GS, .row (.list int) o]⟩
    by_cases hin : i < n
    · (repeat' (first | exact trivial | exact fun h => h | refine And.intro ?_ ?_ | (intro hb; try simp at hb) | omega | exact rfl | exact Nat.le_refl _ | (show _ + 1 ≤ 4294967296; omega) | (show _ + 1 ≤ 5864062014634; omega) | (dsimp only; omega) | (show (_ : Int) ≤ (_ : Int); omega) | (show _ < List.length _; simp only [List.length_set, List.length_append, List.length_take]; omega) | (show wantB _ _ = true; simp <;> omega) | (show (_ : Bool) = _; simp_all; done) | (exfalso; omega) | refine aRegion_auto (by decide +kernel) ?_ | fail))
      refine ⟨Nat × (List (List Int) × List Int) × Nat × List (Nat × Int × Int), fun x => ⟨[(5, .ptr 0 0), (6, .ptr 1 0), (7, .ref 2 0 x.2.1.1.length), (22, .fz (.list (.list SpT)) m), (23, .fz int m.length), (24, .fz int i), (32, .agg [.fz int ((i : Int) + 1), .fz int (-((i : Int) + 1))]), (33, .fz int x.1)], [inO bm clk NS, inO bm2 x.2.2.1 x.2.2.2, .row (.list int) x.2.1.1]⟩, fun x => x.1 ≤ 2 ∧ (x.2.1 = Shp.rF nf n i x.1 ∧ Shp.Gn n x.2.1.2 ∧ x.2.1.1.length ≤ 2 * i + x.1) ∧ MO iG x.2.2.1 x.2.2.2 ∧ ∀ v, gv x.2.2.2 v 0 = if v ∈ x.2.1.2 then 1 else 0, fun x => 2 - x.1, (0, (o, g), c2, GS), ⟨Nat.zero_le _, ⟨hst, hg, hol⟩, hM2, hG⟩, Ent.sub rfl ?_, ?_⟩
      · (repeat' (first | exact trivial | exact rfl | refine And.intro ?_ ?_))
        exact congrArg (fun z => AV.agg [.fz int ((i : Int) + 1), .fz int z]) (show (0 : Int) - (i : Int) - 1 = -((i : Int) + 1) by omega)
      rintro ⟨j, ⟨o, g⟩, c2, GS⟩ ⟨hj2, ⟨hst, hg, hol⟩, hM2, hG⟩
      have hj2 : j ≤ 2 := hj2
      have hst : (o, g) = Shp.rF nf n i j := hst
      have hg : Shp.Gn n g := hg
      have hol : o.length ≤ 2 * i + j := hol
      have hM2 : MO iG c2 GS := hM2
      have hG : ∀ v, gv GS v 0 = if v ∈ g then 1 else 0 := hG
      show awp _ _ _ ⟨[(5, .ptr 0 0), (6, .ptr 1 0), (7, .ref 2 0 o.length), (22, .fz (.list (.list SpT)) m), (23, .fz int m.length), (24, .fz int i), (32, .agg [.fz int ((i : Int) + 1), .fz int (-((i : Int) + 1))]), (33, .fz int j)], [inO bm clk NS, inO bm2 c2 GS, .row (.list int) o]⟩
      by_cases hj : j < 2
      · obtain ⟨w, hw0, hw1, hwb, hwn⟩ : ∃ w : Int, (j = 0 → w = (i : Int) + 1) ∧ (j = 1 → w = -((i : Int) + 1)) ∧ w.natAbs = i + 1 ∧ Shp.rF nf n i (j + 1) = Shp.rst nf n (o, g) w := by
          rcases (by omega : j = 0 ∨ j = 1) with rfl | rfl
          · exact ⟨(i : Int) + 1, fun _ => rfl, fun h => by omega, by omega, by rw [hst, Shp.rF_one]⟩
          · exact ⟨-((i : Int) + 1), fun h => by omega, fun _ => rfl, by omega, by rw [hst, Shp.rF_last]⟩
        have hway : w ≠ 0 ∧ w.natAbs ≤ n := ⟨by omega, by omega⟩
        have hgl := hg.len
        obtain ⟨z, hz⟩ : ∃ z : Int, (j : Int) = z := ⟨_, rfl⟩
        rw [hz]
        apply merge
        · intro hc
          rcases (by omega : j = 0 ∨ j = 1) with hj0 | hj0
          · have hw := hw0 hj0
            obtain rfl : z = 0 := by omega
            (repeat' (first | exact trivial | exact fun h => h | refine And.intro ?_ ?_ | (intro hb; try simp at hb) | omega | exact rfl | exact Nat.le_refl _ | (show _ + 1 ≤ 4294967296; omega) | (show _ + 1 ≤ 5864062014634; omega) | (dsimp only; omega) | (show (_ : Int) ≤ (_ : Int); omega) | (show _ < List.length _; simp only [List.length_set, List.length_append, List.length_take]; omega) | (show wantB _ _ = true; simp <;> omega) | (show (_ : Bool) = _; simp_all; done) | (exfalso; omega) | refine aRegion_auto (by decide +kernel) ?_ | fail))
            refine ⟨[(5, .ptr 0 0), (6, .ptr 1 0), (7, .ref 2 0 o.length), (22, .fz (.list (.list SpT)) m), (23, .fz int m.length), (24, .fz int i), (10, .fz int w), (32, .agg [.fz int ((i : Int) + 1), .fz int (-((i : Int) + 1))]), (33, .fz int j)], [inO bm clk NS, inO bm2 c2 GS, .row (.list int) o], Ent.sub rfl ?_, hc.out⟩
            (repeat' (first | exact trivial | exact rfl | refine And.intro ?_ ?_))
            · exact congrArg (fun z => AV.fz int z) hw.symm
            · exact congrArg (fun z => AV.fz int z) hz.symm
          · have hw := hw1 hj0
            obtain rfl : z = 1 := by omega
            (repeat' (first | exact trivial | exact fun h => h | refine And.intro ?_ ?_ | (intro hb; try simp at hb) | omega | exact rfl | exact Nat.le_refl _ | (show _ + 1 ≤ 4294967296; omega) | (show _ + 1 ≤ 5864062014634; omega) | (dsimp only; omega) | (show (_ : Int) ≤ (_ : Int); omega) | (show _ < List.length _; simp only [List.length_set, List.length_append, List.length_take]; omega) | (show wantB _ _ = true; simp <;> omega) | (show (_ : Bool) = _; simp_all; done) | (exfalso; omega) | refine aRegion_auto (by decide +kernel) ?_ | fail))
            refine ⟨[(5, .ptr 0 0), (6, .ptr 1 0), (7, .ref 2 0 o.length), (22, .fz (.list (.list SpT)) m), (23, .fz int m.length), (24, .fz int i), (10, .fz int w), (32, .agg [.fz int ((i : Int) + 1), .fz int (-((i : Int) + 1))]), (33, .fz int j)], [inO bm clk NS, inO bm2 c2 GS, .row (.list int) o], Ent.sub rfl ?_, hc.out⟩
            (repeat' (first | exact trivial | exact rfl | refine And.intro ?_ ?_))
            · exact congrArg (fun z => AV.fz int z) hw.symm
            · exact congrArg (fun z => AV.fz int z) hz.symm
        clear hz
        (repeat' (first | exact trivial | exact fun h => h | refine And.intro ?_ ?_ | (intro hb; try simp at hb) | omega | exact rfl | exact Nat.le_refl _ | (show _ + 1 ≤ 4294967296; omega) | (show _ + 1 ≤ 5864062014634; omega) | (dsimp only; omega) | (show (_ : Int) ≤ (_ : Int); omega) | (show _ < List.length _; simp only [List.length_set, List.length_append, List.length_take]; omega) | (show wantB _ _ = true; simp <;> omega) | (show (_ : Bool) = _; simp_all; done) | (exfalso; omega) | refine aRegion_auto (by decide +kernel) ?_ | fail))
        refine ⟨(List Int × Int) × Nat × List (Nat × Int × Int), fun x => ⟨[(5, .ptr 0 0), (6, .ptr 1 0), (7, .ref 2 0 o.length), (22, .fz (.list (.list SpT)) m), (23, .fz int m.length), (24, .fz int i), (11, .ref 3 0 x.1.1.length), (12, .fz int x.1.2), (32, .agg [.fz int ((i : Int) + 1), .fz int (-((i : Int) + 1))]), (33, .fz int j)], [inO bm clk NS, inO bm2 x.2.1 x.2.2, .row (.list int) o, .row int x.1.1]⟩, fun x => Shp.RH nf n g w x.1.1 x.1.2 ∧ MO iG x.2.1 x.2.2 ∧ ∀ v, gv x.2.2 v 0 = if v ∈ x.1.1.reverse ++ g then 1 else 0, fun x => 2 * n + 1 - x.1.1.length, (([], w), c2, GS), ⟨Shp.RH.start hg hway, hM2, hG⟩, (Ent.nil 11 int rfl).trans (Ent.sub rfl ?_), ?_⟩
        · (repeat' (first | exact trivial | exact rfl | refine And.intro ?_ ?_))
        rintro ⟨⟨l, v⟩, c2, GS⟩ ⟨hR, hM2, hG⟩
        have hR : Shp.RH nf n g w l v := hR
        have hM2 : MO iG c2 GS := hM2
        have hG : ∀ v, gv GS v 0 = if v ∈ l.reverse ++ g then 1 else 0 := hG
        have hRl := hR.len
        have hRw := hR.way
        have hvG := hig v hRw.2
        show awp _ _ _ ⟨[(5, .ptr 0 0), (6, .ptr 1 0), (7, .ref 2 0 o.length), (22, .fz (.list (.list SpT)) m), (23, .fz int m.length), (24, .fz int i), (11, .ref 3 0 l.length), (12, .fz int v), (32, .agg [.fz int ((i : Int) + 1), .fz int (-((i : Int) + 1))]), (33, .fz int j)], [inO bm clk NS, inO bm2 c2 GS, .row (.list int) o, .row int l]⟩
        refine aact_lookG v (d := (0 : Int)) (tok := 1) (off := 0) (bm := bm2) (clk := c2) (S := GS) rfl rfl hM2 Tryd.underlying56 keyedI kvI_in iG_ok rel_kvI hvG zero_intI ?_
        rw [hG v]
        by_cases hvm : v ∈ l.reverse ++ g
        · have hdn := hR.done hvm
          have hrs : Shp.rF nf n i (j + 1) = (o ++ Shp.ad l, l.reverse ++ g) := by
            rw [hwn]; unfold Shp.rst; rw [hdn]
          have hgn := hR.gn
          rw [if_pos hvm]
          (repeat' (first | exact trivial | exact fun h => h | refine And.intro ?_ ?_ | (intro hb; try simp at hb) | omega | exact rfl | exact Nat.le_refl _ | (show _ + 1 ≤ 4294967296; omega) | (show _ + 1 ≤ 5864062014634; omega) | (dsimp only; omega) | (show (_ : Int) ≤ (_ : Int); omega) | (show _ < List.length _; simp only [List.length_set, List.length_append, List.length_take]; omega) | (show wantB _ _ = true; simp <;> omega) | (show (_ : Bool) = _; simp_all; done) | (exfalso; omega) | refine aRegion_auto (by decide +kernel) ?_ | fail))
          · have hl0 : l ≠ [] := fun e => by rw [e] at hb; simp at hb
            have had : Shp.ad l = [l] := by unfold Shp.ad; rw [if_neg hl0]
            rw [had] at hrs
            refine ⟨(j + 1, (o ++ [l], l.reverse ++ g), c2, GS), ⟨by show j + 1 ≤ 2; omega, ⟨hrs.symm, hgn, by show (o ++ [l]).length ≤ 2 * i + (j + 1); rw [List.length_append, List.length_singleton]; omega⟩, hM2, hG⟩, by show 2 - (j + 1) < 2 - j; omega, Ent.ren [0, 1, 5] rfl ?_ ?_⟩
            · (repeat' (first | exact trivial | exact rfl | refine And.intro ?_ ?_))
              · exact congrArg some (in_same (bm := bm) (clk := clk) (S := NS) _).symm
              · exact in_ok (bm := bm) (clk := clk)
              · exact congrArg some (in_same (bm := bm2) (clk := c2) (S := GS) _).symm
              · exact in_ok (bm := bm2) (clk := c2)
              · refine congrArg (fun l => some (AO.row (.list int) l)) (?_ : List.take o.length o ++ [List.take l.length (List.drop 0 l)] = o ++ [l])
                rw [List.take_length, List.drop_zero, List.take_length]
            · (repeat' (first | exact trivial | exact rfl | refine And.intro ?_ ?_))
              exact congrArg (AV.ref 5 0) (show o.length + 1 = (o ++ [l]).length by simp)
          · have had : Shp.ad l = [] := by unfold Shp.ad; rw [if_pos hb]
            rw [had, List.append_nil] at hrs
            refine ⟨(j + 1, (o, l.reverse ++ g), c2, GS), ⟨by show j + 1 ≤ 2; omega, ⟨hrs.symm, hgn, by show o.length ≤ 2 * i + (j + 1); omega⟩, hM2, hG⟩, by show 2 - (j + 1) < 2 - j; omega, Ent.ren [0, 1, 2] rfl ?_ ?_⟩
            · (repeat' (first | exact trivial | exact rfl | refine And.intro ?_ ?_))
              · exact congrArg some (in_same (bm := bm) (clk := clk) (S := NS) _).symm
              · exact in_ok (bm := bm) (clk := clk)
              · exact congrArg some (in_same (bm := bm2) (clk := c2) (S := GS) _).symm
              · exact in_ok (bm := bm2) (clk := c2)
            · (repeat' (first | exact trivial | exact rfl | refine And.intro ?_ ?_))
        · have hnx := hR.next hnf2 hvm
          rw [if_neg hvm]
          (repeat' (first | exact trivial | exact fun h => h | refine And.intro ?_ ?_ | (intro hb; try simp at hb) | omega | exact rfl | exact Nat.le_refl _ | (show _ + 1 ≤ 4294967296; omega) | (show _ + 1 ≤ 5864062014634; omega) | (dsimp only; omega) | (show (_ : Int) ≤ (_ : Int); omega) | (show _ < List.length _; simp only [List.length_set, List.length_append, List.length_take]; omega) | (show wantB _ _ = true; simp <;> omega) | (show (_ : Bool) = _; simp_all; done) | (exfalso; omega) | refine aRegion_auto (by decide +kernel) ?_ | fail))
          refine aact_lookG v (d := (0 : Int)) (tok := 1) (off := 0) (bm := bm2) (clk := c2) (S := GS) rfl rfl hM2 Tryd.underlying56 keyedI kvI_in iG_ok rel_kvI hvG zero_intI ?_
          rw [hG v, if_neg hvm]
          (repeat' (first | exact trivial | exact fun h => h | refine And.intro ?_ ?_ | (intro hb; try simp at hb) | omega | exact rfl | exact Nat.le_refl _ | (show _ + 1 ≤ 4294967296; omega) | (show _ + 1 ≤ 5864062014634; omega) | (dsimp only; omega) | (show (_ : Int) ≤ (_ : Int); omega) | (show _ < List.length _; simp only [List.length_set, List.length_append, List.length_take]; omega) | (show wantB _ _ = true; simp <;> omega) | (show (_ : Bool) = _; simp_all; done) | (exfalso; omega) | refine aRegion_auto (by decide +kernel) ?_ | fail))
          refine aact_putG v (1 : Int) (tok := 1) (off := 0) (bm := bm2) (clk := c2) (S := GS) rfl rfl hM2 Tryd.underlying56 keyedI kvI_in iG_ok rel_kvI hvG rfl ?_
          (repeat' (first | exact trivial | exact fun h => h | refine And.intro ?_ ?_ | (intro hb; try simp at hb) | omega | exact rfl | exact Nat.le_refl _ | (show _ + 1 ≤ 4294967296; omega) | (show _ + 1 ≤ 5864062014634; omega) | (dsimp only; omega) | (show (_ : Int) ≤ (_ : Int); omega) | (show _ < List.length _; simp only [List.length_set, List.length_append, List.length_take]; omega) | (show wantB _ _ = true; simp <;> omega) | (show (_ : Bool) = _; simp_all; done) | (exfalso; omega) | refine aRegion_auto (by decide +kernel) ?_ | fail))
          refine aact_lookG v (d := (0 : Int)) (tok := 0) (off := 0) (bm := bm) (clk := clk) (S := NS) rfl rfl hM Tryd.underlying56 keyedI kvI_in iG_ok rel_kvI hvG zero_intI ?_
          rw [hnv v]
          (repeat' (first | exact trivial | refine And.intro ?_ ?_ | (intro hb; try simp at hb) | omega | exact rfl | refine aRegion_auto (by decide +kernel) ?_ | fail))
          refine ⟨((l ++ [v], nf v), cS GS c2 v, pS GS c2 v 1), ⟨hnx, hM2.put hvG _, fun u => ?_⟩, by show 2 * n + 1 - (l ++ [v]).length < 2 * n + 1 - l.length; rw [List.length_append, List.length_singleton]; omega, Ent.ren [0, 1, 2, 5] rfl ?_ ?_⟩
          · show gv (pS GS c2 v 1) u 0 = if u ∈ (l ++ [v]).reverse ++ g then 1 else 0
            rw [gv_put hM2, hG u]
            have e : (l ++ [v]).reverse ++ g = v :: (l.reverse ++ g) := by simp
            rw [e]
            by_cases c : u = v
            · rw [if_pos c, if_pos (by rw [c]; exact List.mem_cons_self ..)]
            · rw [if_neg c]
              by_cases d : u ∈ l.reverse ++ g
              · rw [if_pos d, if_pos (List.mem_cons_of_mem _ d)]
              · rw [if_neg d, if_neg (fun h => (List.mem_cons.1 h).elim c d)]
          · (repeat' (first | exact trivial | exact rfl | refine And.intro ?_ ?_))
            · exact congrArg some (in_same (bm := bm) (clk := clk) (S := NS) _).symm
            · exact in_ok (bm := bm) (clk := clk)
            · exact congrArg some (in_same (bm := bm2) (clk := cS GS c2 v) (S := pS GS c2 v 1) _).symm
            · exact in_ok (bm := bm2) (clk := cS GS c2 v)
            · refine congrArg (fun l => some (AO.row int l)) (?_ : List.take l.length l ++ [v] = l ++ [v])
              rw [List.take_length]
          · (repeat' (first | exact trivial | exact rfl | refine And.intro ?_ ?_))
            exact congrArg (AV.ref 5 0) (show l.length + 1 = (l ++ [v]).length by simp)
      · obtain rfl : j = 2 := by omega
        rw [Shp.rF_two] at hst
        (repeat' (first | exact trivial | refine And.intro ?_ ?_ | (intro hb; try simp at hb) | omega | exact rfl | refine aRegion_auto (by decide +kernel) ?_ | fail))
        refine ⟨(i + 1, (o, g), c2, GS), ⟨by show i + 1 ≤ n; omega, ⟨hst, hg, by show o.length ≤ 2 * (i + 1); omega⟩, hM2, hG⟩, by show n - (i + 1) < n - i; omega, Ent.sub rfl ?_⟩
        · (repeat' (first | exact trivial | exact rfl | refine And.intro ?_ ?_))
    · obtain rfl : i = n := by omega
      have ho : o = Shp.rounds nf i := by rw [← Shp.rF_rounds, ← hst]
      rw [← ho] at hK
      (repeat' (first | exact trivial | refine And.intro ?_ ?_ | (intro hb; try simp at hb) | omega | exact rfl | refine aRegion_auto (by decide +kernel) ?_ | fail))
      refine ⟨_, _, (REnt.conv [.dat (.list (.list int)), .keep] _ rfl ?_).trans (REnt.drop ⟨rfl, rfl⟩), ?_⟩
      · (repeat' (first | exact trivial | refine And.intro ?_ ?_ | (show _ ≤ _; omega) | (show _ ≤ _; simp; done)))
      · refine (congrArg (fun l => K (.tup [.fz (.list (.list int)) l, .fz .raw .nilIface]) []) (?_ : List.take o.length (List.drop 0 o) = o)).mpr hK
        rw [List.drop_zero, List.take_length]
  · have hK := hK1 hv
    have hle := Shp.vE_le ngB m
    obtain ⟨e, he⟩ : ∃ e, Shp.vE ngB m = e := ⟨_, rfl⟩
    rw [he] at hK hv hle ⊢
    have hd : e = 2 ∨ e = 3 ∨ e = 7 := by
      unfold Shp.vE at he
      split at he
      · omega
      · split at he
        · omega
        · split at he <;> omega
    rcases hd with rfl | rfl | rfl
    · (repeat' (first | exact trivial | refine And.intro ?_ ?_ | (intro hb; try simp at hb) | omega | exact rfl | refine aRegion_auto (by decide +kernel) ?_ | refine ⟨_, _, REnt.drop ⟨rfl, rfl⟩, ?_⟩ | fail))
      exact hK
    · (repeat' (first | exact trivial | refine And.intro ?_ ?_ | (intro hb; try simp at hb) | omega | exact rfl | refine aRegion_auto (by decide +kernel) ?_ | refine ⟨_, _, REnt.drop ⟨rfl, rfl⟩, ?_⟩ | fail))
      exact hK
    · (repeat' (first | exact trivial | refine And.intro ?_ ?_ | (intro hb; try simp at hb) | omega | exact rfl | refine aRegion_auto (by decide +kernel) ?_ | refine ⟨_, _, REnt.drop ⟨rfl, rfl⟩, ?_⟩ | fail))
      exact hK
end Go.Proofs.YtcfalmdfohphoaaDoor
/-
  What the laws on maps ask by the way: are there few arcs, a map drawn.
-/
namespace Go.Proofs.YtcfalmdfohphoaaDoor
open Go Go.Ab
set_option maxRecDepth 100000
/-- so few pieces that all can be looked at (or too many) -/
def fewA (m : Shp.Arcs) : Prop := (wr (Shp.tot m m.length) ≤ 60 ∧ m.length ≤ 70) ∨ (4000 < wr (Shp.tot m m.length) ∧ wr (Shp.tot m m.length) < 4100)
instance (m : Shp.Arcs) : Decidable (fewA m) := by unfold fewA; infer_instance
theorem fewArcs_any (G : List (Nat × Value)) (m : Shp.Arcs) (hl : m.length ≤ 1000000000000000) (K : AV → List AO → Prop) (hK : K (.fz .bool (decide (fewA m))) []) : ACall Tryd.prog G 8 [.fptr MpT m] [] K := by
  have hat : ∀ i : Nat, List.getD m (Int.toNat (i : Int)) SpT.list.dft = Shp.arc m i := fun i => rfl
  refine acall_mk (E := envAt G 44 0) (envOk _ _ _) Tryd.func8 rfl rfl rfl rfl rfl ?_
  (repeat' (first | exact trivial | refine And.intro ?_ ?_ | (intro hb; try simp at hb) | omega | exact rfl | refine aRegion_auto (by decide +kernel) ?_ | fail))
  refine ⟨Nat, fun i => ⟨[(0, .fptr MpT m), (3, .fz int (wr (Shp.tot m i))), (4, .fz int i), (1000003, .unk)], []⟩, fun i => i ≤ m.length, fun i => m.length - i, 0, Nat.zero_le _, Ent.sub rfl ?_, ?_⟩
  · (repeat' (first | exact trivial | exact rfl | refine And.intro ?_ ?_))
  intro i hi
  have hi : i ≤ m.length := hi
  obtain ⟨n, hn⟩ : ∃ n, Shp.tot m i = n := ⟨_, rfl⟩
  show awp _ _ _ ⟨[(0, .fptr MpT m), (3, .fz int (wr (Shp.tot m i))), (4, .fz int i), (1000003, .unk)], []⟩
  rw [hn]
  by_cases hil : i < m.length
  · obtain ⟨a, ha⟩ : ∃ a, Shp.arc m i = a := ⟨_, rfl⟩
    have hg := hat i
    have hnx := Shp.tot_next hil
    rw [ha] at hg hnx
    rw [hn] at hnx
    (repeat' (first | exact trivial | refine And.intro ?_ ?_ | (intro hb; try simp at hb) | omega | exact rfl | refine aRegion_auto (by decide +kernel) ?_ | fail))
    rw [hg]
    (repeat' (first | exact trivial | refine And.intro ?_ ?_ | (intro hb; try simp at hb) | omega | exact rfl | refine aRegion_auto (by decide +kernel) ?_ | fail))
    refine aact_addW (a := wr n) (b := (a.length : Int)) rfl rfl ?_
    rw [wr_add, ← hnx]
    (repeat' (first | exact trivial | refine And.intro ?_ ?_ | (intro hb; try simp at hb) | omega | exact rfl | refine aRegion_auto (by decide +kernel) ?_ | fail))
    refine aact_addW (a := (i : Int)) (b := 1) rfl rfl ?_
    rw [show IntKind.i64.wrap ((i : Int) + 1) = (i : Int) + 1 from I64.wrap (by unfold I64; omega)]
    (repeat' (first | exact trivial | refine And.intro ?_ ?_ | (intro hb; try simp at hb) | omega | exact rfl | refine aRegion_auto (by decide +kernel) ?_ | fail))
    refine ⟨i + 1, by show i + 1 ≤ m.length; omega, by show m.length - (i + 1) < m.length - i; omega, Ent.sub rfl ?_⟩
    · (repeat' (first | exact trivial | exact rfl | refine And.intro ?_ ?_))
  · obtain rfl : i = m.length := by omega
    have hfw : fewA m ↔ (wr n ≤ 60 ∧ m.length ≤ 70) ∨ (4000 < wr n ∧ wr n < 4100) := by unfold fewA; rw [hn]
    obtain ⟨s, hs⟩ : ∃ s, wr n = s := ⟨_, rfl⟩
    rw [hs] at hfw ⊢
    (repeat' (first | exact trivial | exact fun h => h | refine And.intro ?_ ?_ | (intro hb; try simp at hb) | omega | exact rfl | exact Nat.le_refl _ | (show _ + 1 ≤ 4294967296; omega) | (show _ + 1 ≤ 5864062014634; omega) | (dsimp only; omega) | (show (_ : Int) ≤ (_ : Int); omega) | (show _ < List.length _; simp only [List.length_set, List.length_append, List.length_take]; omega) | (show wantB _ _ = true; simp <;> omega) | (show (_ : Bool) = _; simp_all; done) | (exfalso; omega) | refine aRegion_auto (by decide +kernel) ?_ | refine ⟨_, _, REnt.drop ⟨rfl, rfl⟩, ?_⟩ | fail))
    refine kbl hK ?_
    have hfd : decide (fewA m) = decide ((s ≤ 60 ∧ m.length ≤ 70) ∨ (4000 < s ∧ s < 4100)) := decide_eq_decide.2 hfw
    rw [hfd]
    have c : decide ((m.length : Int) ≤ 70) = decide (m.length ≤ 70) := decide_eq_decide.2 (by omega)
    rw [Bool.eq_iff_iff]
    by_cases h1 : s ≤ 60 <;> by_cases h2 : m.length ≤ 70 <;> by_cases h3 : 4000 < s <;> by_cases h4 : s < 4100 <;> simp [c, h1, h2, h3, h4]
theorem fewNil_any (G : List (Nat × Value)) (K : AV → List AO → Prop) (hK : K (.fz .bool false) []) : ACall Tryd.prog G 8 [.fz .raw (.pointer none)] [] K := by
  refine acall_mk (E := envAt G 44 0) (envOk _ _ _) Tryd.func8 rfl rfl rfl rfl rfl ?_
  (repeat' (first | exact trivial | exact fun h => h | refine And.intro ?_ ?_ | (intro hb; try simp at hb) | omega | exact rfl | exact Nat.le_refl _ | (show _ + 1 ≤ 4294967296; omega) | (show _ + 1 ≤ 5864062014634; omega) | (dsimp only; omega) | (show (_ : Int) ≤ (_ : Int); omega) | (show _ < List.length _; simp only [List.length_set, List.length_append, List.length_take]; omega) | (show wantB _ _ = true; simp <;> omega) | (show (_ : Bool) = _; simp_all; done) | (exfalso; omega) | refine aRegion_auto (by decide +kernel) ?_ | refine ⟨_, _, REnt.drop ⟨rfl, rfl⟩, ?_⟩ | fail))
  exact hK
set_option maxHeartbeats 4000000 in
theorem drawn_any (G : List (Nat × Value)) (m : Shp.Arcs) (hl : m.length ≤ 5864062014634) (hlen : ∀ i, i < m.length → (Shp.arc m i).length ≤ 8796093022208) (K : AV → List AO → Prop) (hK : K (.fz MpT m) []) : ACall Tryd.prog G 11 [.fptr MpT m] [] K := by
  refine acall_mk (E := envAt G 31 0) (envOk _ _ _) Tryd.func11 rfl rfl rfl rfl rfl ?_
  (repeat' (first | exact trivial | exact fun h => h | refine And.intro ?_ ?_ | (intro hb; try simp at hb) | omega | exact rfl | exact Nat.le_refl _ | (show _ + 1 ≤ 4294967296; omega) | (show _ + 1 ≤ 5864062014634; omega) | (dsimp only; omega) | (show (_ : Int) ≤ (_ : Int); omega) | (show _ < List.length _; simp only [List.length_set, List.length_append, List.length_take]; omega) | (show wantB _ _ = true; simp <;> omega) | (show (_ : Bool) = _; simp_all; done) | (exfalso; omega) | refine aRegion_auto (by decide +kernel) ?_ | fail))
  refine ⟨Nat, fun i => ⟨[(0, .fptr MpT m), (2, .ptr 0 0), (3, .ptr 1 0), (4, .fz int i)], [.box [.nilSl], .box [.ref 2 0 (m.take i).length], .row (.list SpT) (m.take i)]⟩, fun i => i ≤ m.length, fun i => m.length - i, 0, Nat.zero_le _, (Ent.nilBox 1 0 (.list SpT) rfl rfl).trans (Ent.sub rfl ?_), ?_⟩
  · (repeat' (first | exact trivial | exact rfl | refine And.intro ?_ ?_))
  intro i hi
  have hi : i ≤ m.length := hi
  obtain ⟨o, ho⟩ : ∃ o, m.take i = o := ⟨_, rfl⟩
  have hol : o.length = i := by rw [← ho, List.length_take]; omega
  show awp _ _ _ ⟨[(0, .fptr MpT m), (2, .ptr 0 0), (3, .ptr 1 0), (4, .fz int i)], [.box [.nilSl], .box [.ref 2 0 (m.take i).length], .row (.list SpT) (m.take i)]⟩
  rw [ho]
  by_cases hil : i < m.length
  · obtain ⟨a, ha⟩ : ∃ a, Shp.arc m i = a := ⟨_, rfl⟩
    have hg : List.getD m (Int.toNat (i : Int)) SpT.list.dft = a := ha
    have hal := hlen i hil
    rw [ha] at hal
    have hal2 : (List.getD m (Int.toNat (i : Int)) SpT.list.dft).length ≤ 8796093022208 := by rw [hg]; exact hal
    have hnx : m.take (i + 1) = o ++ [a] := by
      rw [List.take_add_one, ho, List.getElem?_eq_getElem hil]
      have : m[i] = a := by rw [← ha]; unfold Shp.arc; rw [List.getD_eq_getElem?_getD, List.getElem?_eq_getElem hil]; rfl
      rw [this]; rfl
    have htl : List.take (List.getD m (Int.toNat (i : Int)) SpT.list.dft).length (List.drop 0 (List.getD m (Int.toNat (i : Int)) SpT.list.dft)) = a := by rw [hg, List.drop_zero, List.take_length]
    (repeat' (first | exact trivial | exact fun h => h | refine And.intro ?_ ?_ | (intro hb; try simp at hb) | omega | exact rfl | exact Nat.le_refl _ | (show _ + 1 ≤ 4294967296; omega) | (show _ + 1 ≤ 5864062014634; omega) | (dsimp only; omega) | (show (_ : Int) ≤ (_ : Int); omega) | (show _ < List.length _; simp only [List.length_set, List.length_append, List.length_take]; omega) | (show wantB _ _ = true; simp <;> omega) | (show (_ : Bool) = _; simp_all; done) | (exfalso; omega) | refine aRegion_auto (by decide +kernel) ?_ | fail))
    refine ⟨i + 1, by show i + 1 ≤ m.length; omega, by show m.length - (i + 1) < m.length - i; omega, Ent.ren [0, 1, 5] rfl ?_ ?_⟩
    · (repeat' (first | exact trivial | exact rfl | refine And.intro ?_ ?_))
      · exact congrArg (fun n : Nat => some (AO.box [.ref 5 0 n])) (show o.length + 1 = (m.take (i + 1)).length by rw [hnx]; simp)
      · refine congrArg (fun l => some (AO.row (.list SpT) l)) (?_ : List.take o.length o ++ [List.take (List.getD m (Int.toNat (i : Int)) SpT.list.dft).length (List.drop 0 (List.getD m (Int.toNat (i : Int)) SpT.list.dft))] = m.take (i + 1))
        rw [List.take_length, htl, hnx]
    · (repeat' (first | exact trivial | exact rfl | refine And.intro ?_ ?_))
  · obtain rfl : i = m.length := by omega
    rw [List.take_length] at ho
    subst ho
    (repeat' (first | exact trivial | exact fun h => h | refine And.intro ?_ ?_ | (intro hb; try simp at hb) | omega | exact rfl | exact Nat.le_refl _ | (show _ + 1 ≤ 4294967296; omega) | (show _ + 1 ≤ 5864062014634; omega) | (dsimp only; omega) | (show (_ : Int) ≤ (_ : Int); omega) | (show _ < List.length _; simp only [List.length_set, List.length_append, List.length_take]; omega) | (show wantB _ _ = true; simp <;> omega) | (show (_ : Bool) = _; simp_all; done) | (exfalso; omega) | refine aRegion_auto (by decide +kernel) ?_ | fail))
    refine ⟨_, _, (REnt.conv1 (.dat MpT) _ rfl ?_).trans (REnt.drop ⟨rfl, rfl⟩), ?_⟩
    · (repeat' (first | exact trivial | refine And.intro ?_ ?_ | (show _ ≤ _; omega) | (show _ ≤ _; simp; done)))
    · refine (congrArg (fun l => K (.fz MpT l) []) (?_ : List.take m.length (List.drop 0 m) = m)).mpr hK
      rw [List.drop_zero, List.take_length]
end Go.Proofs.YtcfalmdfohphoaaDoor
/-
  Is the package there: the walk.
-/
namespace Go.Proofs.YtcfalmdfohphoaaDoor
open Go Go.Ab
set_option maxRecDepth 100000
def mp0 : Shp.Arcs := [[(0, 0), (1, 0)]]
theorem mp0_arc : Shp.arc mp0 0 = [(0, 0), (1, 0)] := rfl
theorem mp0_ok : Shp.vE ngB mp0 = 0 := by
  refine Shp.vE_ok (by decide +kernel) (fun i hi => ?_) ⟨fun i k j n ⟨h1, h2⟩ ⟨h3, h4⟩ h5 => ?_, fun i t j u ⟨h1, h2⟩ h3 h4 => ?_⟩
  · obtain rfl : i = 0 := by have : i < 1 := hi; omega
    decide +kernel
  · have h1 : i < 1 := h1
    have h3 : j < 1 := h3
    obtain rfl : i = 0 := by omega
    obtain rfl : j = 0 := by omega
    have h2 : k + 1 < 2 := h2
    omega
  · have h1 : i < 1 := h1
    obtain rfl : i = 0 := by omega
    have h4 : t + 1 < 2 := h4
    omega
theorem mp0_rounds : Shp.rounds (Shp.nof mp0) mp0.length = [[1, -1]] := by decide +kernel
theorem mapped_any (E : Errs) (K : AV → List AO → Prop) (hK : K (.fz .bool true) []) : ACall Tryd.prog (G8 E) 7 [] [] K := by
  have hlen : ∀ i, i < mp0.length → (Shp.arc mp0 i).length ≤ 8796093022208 := fun i hi => by
    obtain rfl : i = 0 := by have : i < 1 := hi; omega
    decide +kernel
  refine acall_mk (E := envAt (G8 E) 26 0) (envOk _ _ _) Tryd.func7 rfl rfl rfl rfl rfl ?_
  (repeat' (first | exact trivial | exact fun h => h | refine And.intro ?_ ?_ | (intro hb; try simp at hb) | omega | exact rfl | exact Nat.le_refl _ | (show _ + 1 ≤ 4294967296; omega) | (show _ + 1 ≤ 5864062014634; omega) | (dsimp only; omega) | (show (_ : Int) ≤ (_ : Int); omega) | (show _ < List.length _; simp only [List.length_set, List.length_append, List.length_take]; omega) | (show wantB _ _ = true; simp <;> omega) | (show (_ : Bool) = _; simp_all; done) | (exfalso; omega) | refine aRegion_auto (by decide +kernel) ?_ | refine ⟨_, _, REnt.drop ⟨rfl, rfl⟩, ?_⟩ | fail))
  refine acall_conv [.dat MpT] _ _ _ rfl ?_ (acall_frame0 rfl (acall_arg (faces_any E mp0 (by decide) hlen _ (fun _ => ?_) (fun h => (h mp0_ok).elim)) rfl))
  · (repeat' (first | exact trivial | refine And.intro ?_ ?_ | (show _ ≤ _; omega) | (show _ ≤ _; simp; done)))
  · rw [mp0_rounds]
    (repeat' (first | exact trivial | exact fun h => h | refine And.intro ?_ ?_ | (intro hb; try simp at hb) | omega | exact rfl | exact Nat.le_refl _ | (show _ + 1 ≤ 4294967296; omega) | (show _ + 1 ≤ 5864062014634; omega) | (dsimp only; omega) | (show (_ : Int) ≤ (_ : Int); omega) | (show _ < List.length _; simp only [List.length_set, List.length_append, List.length_take]; omega) | (show wantB _ _ = true; simp <;> omega) | (show (_ : Bool) = _; simp_all; done) | (exfalso; omega) | refine aRegion_auto (by decide +kernel) ?_ | refine ⟨_, _, REnt.drop ⟨rfl, rfl⟩, ?_⟩ | fail))
    · show (0 : Int) < 1
      decide
    · exact hK
end Go.Proofs.YtcfalmdfohphoaaDoor
/-
  Plain facts on the order around a place: three directions, one of them turned over nothing (no program in sight).
-/
namespace Shp
def rk (L : List Sp) (x : Sp) : Nat := L.countP fun y => decide (trn y x < 0)
theorem count_le {α : Type} {p q : α → Bool} : ∀ {L : List α}, (∀ z ∈ L, p z = true → q z = true) → L.countP p ≤ L.countP q
  | [], _ => Nat.le_refl _
  | x :: L, h => by
    have ih := count_le (L := L) fun z hz => h z (List.mem_cons_of_mem _ hz)
    have hx := h x (List.mem_cons_self ..)
    rw [List.countP_cons, List.countP_cons]
    cases hp : p x
    · simp; omega
    · rw [hx hp]; simp; omega
theorem count_lt {α : Type} {p q : α → Bool} : ∀ {L : List α} {x : α}, (∀ z ∈ L, p z = true → q z = true) → x ∈ L → p x = false → q x = true → L.countP p < L.countP q
  | [], _, _, hx, _, _ => by cases hx
  | y :: L, x, h, hx, h1, h2 => by
    have hy := h y (List.mem_cons_self ..)
    rw [List.countP_cons, List.countP_cons]
    by_cases e : x = y
    · subst e
      have := count_le (L := L) fun z hz => h z (List.mem_cons_of_mem _ hz)
      rw [h1, h2]; simp; omega
    · have hx' : x ∈ L := (List.mem_cons.1 hx).resolve_left e
      have := count_lt (L := L) (fun z hz => h z (List.mem_cons_of_mem _ hz)) hx' h1 h2
      cases hp : p y
      · simp; omega
      · rw [hy hp]; simp; omega
theorem rk_lt {L : List Sp} (hL : ∀ y ∈ L, y ≠ (0, 0)) {x y : Sp} (hx : x ∈ L) (hy : y ∈ L) : trn x y < 0 ↔ rk L x < rk L y := by
  have sx := fun z => trn_swap z x
  have sy := fun z => trn_swap z y
  constructor
  · intro h
    refine count_lt (x := x) (fun z hz h2 => ?_) hx ?_ (by simpa using h)
    · simp only [decide_eq_true_eq] at h2 ⊢
      have := trn_le_trans (hL z hz) (hL x hx) (hL y hy) (by omega) (by omega)
      rcases Int.lt_or_eq_of_le this with c | c
      · exact c
      · have := trn_le_trans (hL y hy) (hL z hz) (hL x hx) (by have := sy z; omega) (by omega)
        have := sy x
        omega
    · simp only [decide_eq_false_iff_not]
      have := sx x
      omega
  · intro h
    refine Classical.byContradiction fun c => ?_
    have hyx : trn y x ≤ 0 := by have := sy x; omega
    have : rk L y ≤ rk L x := count_le fun z hz h2 => by
      simp only [decide_eq_true_eq] at h2 ⊢
      have := trn_le_trans (hL z hz) (hL y hy) (hL x hx) (by omega) hyx
      rcases Int.lt_or_eq_of_le this with c | c
      · exact c
      · have := trn_le_trans (hL y hy) (hL x hx) (hL z hz) hyx (by have := sx z; omega)
        have := sy z
        omega
    omega
theorem rk_ne {L : List Sp} (hL : ∀ y ∈ L, y ≠ (0, 0)) {x y : Sp} (hx : x ∈ L) (hy : y ∈ L) (h : trn x y ≠ 0) : rk L x ≠ rk L y := fun e => by
  have a := rk_lt hL hx hy
  have b := rk_lt hL hy hx
  have := trn_swap x y
  omega
theorem rk_eq {L : List Sp} (hL : ∀ y ∈ L, y ≠ (0, 0)) {x y : Sp} (hx : x ∈ L) (hy : y ∈ L) (h : trn x y = 0) : rk L x = rk L y := by
  have a := rk_lt hL hx hy
  have b := rk_lt hL hy hx
  have := trn_swap x y
  omega
def cyR (a b c : Nat) : Prop := (a < b ∧ b < c) ∨ (b < c ∧ c < a) ∨ (c < a ∧ a < b)
theorem CY_rk {L : List Sp} (hL : ∀ y ∈ L, y ≠ (0, 0)) {a b c : Sp} (ha : a ∈ L) (hb : b ∈ L) (hc : c ∈ L) : CY a b c ↔ cyR (rk L a) (rk L b) (rk L c) := by
  unfold CY cyR
  rw [rk_lt hL ha hb, rk_lt hL hb hc, rk_lt hL hc ha]
/-- two directions that differ, and are some -/
structure Df (a b : Sp) : Prop where
  l : a ≠ (0, 0)
  r : b ≠ (0, 0)
  ne : trn a b ≠ 0
theorem Df.symm {a b : Sp} (h : Df a b) : Df b a := ⟨h.r, h.l, by have := trn_swap a b; have := h.ne; omega⟩
theorem mem3 {a b c : Sp} (P : Sp → Prop) (ha : P a) (hb : P b) (hc : P c) : ∀ y ∈ [a, b, c], P y := by
  intro y hy
  simp only [List.mem_cons, List.not_mem_nil, or_false] at hy
  rcases hy with rfl | rfl | rfl <;> assumption
theorem mem4 {a b c d : Sp} (P : Sp → Prop) (ha : P a) (hb : P b) (hc : P c) (hd : P d) : ∀ y ∈ [a, b, c, d], P y := by
  intro y hy
  simp only [List.mem_cons, List.not_mem_nil, or_false] at hy
  rcases hy with rfl | rfl | rfl | rfl <;> assumption
theorem soon_iff {f a b : Sp} (h1 : Df f a) (h2 : Df f b) (h3 : Df a b) : soon f a b = true ↔ CY b a f := by
  constructor
  · intro h
    refine Classical.byContradiction fun c => ?_
    have hL := mem3 (fun y => y ≠ (0, 0)) h1.l h1.r h2.r
    have m1 : f ∈ [f, a, b] := by simp
    have m2 : a ∈ [f, a, b] := by simp
    have m3 : b ∈ [f, a, b] := by simp
    have n1 := rk_ne hL m1 m2 h1.ne
    have n2 := rk_ne hL m1 m3 h2.ne
    have n3 := rk_ne hL m2 m3 h3.ne
    rw [CY_rk hL m3 m2 m1] at c
    have c2 : CY a b f := by
      rw [CY_rk hL m2 m3 m1]
      unfold cyR at *
      omega
    rw [(soon_cyc h1.l h2.r h1.r c2).2] at h
    cases h
  · exact fun c => (soon_cyc h1.l h1.r h2.r c).1
theorem CY_cone {d d' x : Sp} (hd : d ≠ (0, 0)) (hd' : d' ≠ (0, 0)) (hx : x ≠ (0, 0)) (he : 0 < cross d d') (h : CY d x d') : 0 < cross d x ∧ 0 < cross x d' := by
  unfold CY at h
  rw [trn_lt, trn_lt, trn_lt] at h
  obtain ⟨u, hu, hu'⟩ := up_or hd
  obtain ⟨v, hv, hv'⟩ := up_or hd'
  obtain ⟨z, hz, hz'⟩ := up_or hx
  have s1 := cross_swap u v
  have s2 := cross_swap v z
  have s3 := cross_swap u z
  have t1 := up_trans hu hv hz
  have t2 := up_trans hu hz hv
  have t3 := up_trans hv hu hz
  have t4 := up_trans hv hz hu
  have t5 := up_trans hz hu hv
  have t6 := up_trans hz hv hu
  rcases hu' with ⟨e1, f1⟩ | ⟨e1, f1⟩ <;> rcases hv' with ⟨e2, f2⟩ | ⟨e2, f2⟩ <;> rcases hz' with ⟨e3, f3⟩ | ⟨e3, f3⟩ <;>
    (rw [f1, f2, f3] at h; subst e1; subst e2; subst e3; simp only [cross_ng_l, cross_ng_r, Int.neg_neg] at *; omega)
/-- is the direction x met when d is turned to d'? -/
def within (d d' x : Sp) : Prop := (0 < cross d d' ∧ 0 < cross d x ∧ 0 < cross x d') ∨ (cross d d' < 0 ∧ cross d x < 0 ∧ cross x d' < 0)
theorem same_dir {d d' : Sp} (hd : d ≠ (0, 0)) (hd' : d' ≠ (0, 0)) (hc : cross d d' = 0) (ho : 0 < dot d d') : trn d d' = 0 := by
  obtain ⟨u, hu, hu'⟩ := up_or hd
  obtain ⟨v, hv, hv'⟩ := up_or hd'
  have s := cross_swap d d'
  have hh : hf d = hf d' := by
    rcases hu' with ⟨e1, f1⟩ | ⟨e1, f1⟩ <;> rcases hv' with ⟨e2, f2⟩ | ⟨e2, f2⟩
    · omega
    · subst e1; subst e2
      simp only [cross_ng_r, dot_ng_r] at hc ho
      have := up_dot hu hv (by omega)
      omega
    · subst e1; subst e2
      simp only [cross_ng_l, dot_ng_l] at hc ho
      have := up_dot hu hv (by omega)
      omega
    · omega
  unfold trn
  rw [if_pos (by omega), s, hc]; rfl
theorem CY_turn {d d' a b : Sp} (h1 : Df d a) (h2 : Df d b) (h3 : Df d' a) (h4 : Df d' b) (h5 : Df a b) (h0 : cross d d' = 0 → 0 < dot d d') (ha : ¬ within d d' a) (hb : ¬ within d d' b) : CY d a b ↔ CY d' a b := by
  have hL := mem4 (fun y => y ≠ (0, 0)) h1.l h3.l h1.r h2.r
  have m1 : d ∈ [d, d', a, b] := by simp
  have m2 : d' ∈ [d, d', a, b] := by simp
  have m3 : a ∈ [d, d', a, b] := by simp
  have m4 : b ∈ [d, d', a, b] := by simp
  have n1 := rk_ne hL m1 m3 h1.ne
  have n2 := rk_ne hL m1 m4 h2.ne
  have n3 := rk_ne hL m2 m3 h3.ne
  have n4 := rk_ne hL m2 m4 h4.ne
  have n5 := rk_ne hL m3 m4 h5.ne
  rw [CY_rk hL m1 m3 m4, CY_rk hL m2 m3 m4]
  rcases Int.lt_trichotomy (cross d d') 0 with c | c | c
  · -- with the clock
    have c' : 0 < cross d' d := by rw [cross_swap d d']; omega
    have k1 : ¬ CY d' a d := fun h => by
      have := CY_cone h3.l h1.l h1.r c' h
      refine ha (.inr ⟨c, ?_, ?_⟩)
      · rw [cross_swap a d]; omega
      · rw [cross_swap d' a]; omega
    have k2 : ¬ CY d' b d := fun h => by
      have := CY_cone h3.l h1.l h2.r c' h
      refine hb (.inr ⟨c, ?_, ?_⟩)
      · rw [cross_swap b d]; omega
      · rw [cross_swap d' b]; omega
    rw [CY_rk hL m2 m3 m1] at k1
    rw [CY_rk hL m2 m4 m1] at k2
    unfold cyR at *
    omega
  · have := rk_eq hL m1 m2 (same_dir h1.l h3.l c (h0 c))
    rw [this]
  · have k1 : ¬ CY d a d' := fun h => by
      have := CY_cone h1.l h3.l h1.r c h
      exact ha (.inl ⟨c, this⟩)
    have k2 : ¬ CY d b d' := fun h => by
      have := CY_cone h1.l h3.l h2.r c h
      exact hb (.inl ⟨c, this⟩)
    rw [CY_rk hL m1 m3 m2] at k1
    rw [CY_rk hL m1 m4 m2] at k2
    unfold cyR at *
    omega
end Shp
/-
  Plain facts on a map that loses a point that can be spared: the next ways stay, and so do the rounds (no program in sight).
-/
namespace Shp
theorem tri_swap (p q r x : Sp) : tri r q p x = tri p q r x := by
  have a : side r q p = - side p q r := by rw [side_swap q r p, side_rot]
  unfold tri
  rw [a, side_swap q r x, side_swap p q x, side_swap r p x, sg_neg, sg_neg, sg_neg, on_swap q r, on_swap p q, on_swap r p]
  by_cases h : side p q r = 0
  · rw [if_pos h, if_pos (by omega), Bool.or_comm (on q r x)]
  · rw [if_neg h, if_neg (by omega)]
    rw [Bool.eq_iff_iff]
    simp only [Bool.or_eq_true, Bool.not_eq_true', Bool.or_eq_false_iff, decide_eq_false_iff_not]
    omega
/-- a point that is left out, seen from one of its neighbours -/
structure Nb (m : Arcs) (i k : Nat) (p r : Sp) : Prop where
  e : (p = pt m i (k - 1) ∧ r = pt m i (k + 1)) ∨ (p = pt m i (k + 1) ∧ r = pt m i (k - 1))
section
variable {m : Arcs} {i k : Nat} (R : Right m) (hi : i < m.length) (h0 : 0 < k) (hk : k + 1 < (arc m i).length) {most : Int} (hs : spP m i k most)
include R hi h0 hk
theorem Nb.meets {p r : Sp} (h : Nb m i k p r) : meet p (pt m i k) (pt m i k) r = false := by
  have h1 : isP m i (k - 1) := ⟨hi, by omega⟩
  have h2 : isP m i k := ⟨hi, hk⟩
  have g := R.meet2 h1 h2 (by omega)
  rw [show k - 1 + 1 = k by omega] at g
  rcases h.e with ⟨a, b⟩ | ⟨a, b⟩
  · rw [a, b]; exact g
  · rw [a, b, meet_swap, ← meet_comm, meet_swap]
    exact g
theorem Nb.ne {p r : Sp} (h : Nb m i k p r) : p ≠ pt m i k ∧ r ≠ pt m i k ∧ p ≠ r := by
  have h1 : isP m i (k - 1) := ⟨hi, by omega⟩
  have h2 : isP m i k := ⟨hi, hk⟩
  have a := R.step _ _ h1
  have b := R.step _ _ h2
  rw [show k - 1 + 1 = k by omega] at a
  have c := ends_ne R hi h0 hk
  rcases h.e with ⟨e1, e2⟩ | ⟨e1, e2⟩
  · rw [e1, e2]; exact ⟨a, b.symm, c⟩
  · rw [e1, e2]; exact ⟨b.symm, a, c.symm⟩
/-- the new direction: where it is the old line, it is the old one -/
theorem Nb.dots {p r : Sp} (h : Nb m i k p r) (hc : cross (sub (pt m i k) p) (sub r p) = 0) : 0 < dot (sub (pt m i k) p) (sub r p) := by
  obtain ⟨n1, n2, n3⟩ := h.ne R hi h0 hk
  have hm := h.meets R hi h0 hk
  generalize pt m i k = q at *
  have z : ∀ x : Sp, p ≠ x → sub x p ≠ (0, 0) := fun x hx e => hx (by
    unfold sub at e
    simp only [Prod.mk.injEq] at e
    exact Prod.ext (by omega) (by omega))
  obtain ⟨u, hu, hu'⟩ := up_or (z q n1)
  obtain ⟨v, hv, hv'⟩ := up_or (z r n3)
  have key : ∀ {d d' : Sp}, sub q p = d → sub r p = d' → UP u → UP v → cross u v = 0 → (d = u ∧ d' = ng v) ∨ (d = ng u ∧ d' = v) → False := fun {d d'} e1 e2 hu hv hc2 he => by
    have hb := up_btw hu hv hc2
    have hon : on q r p = true := by
      refine on_btw ?_ ?_
      · rw [← side_sub]
        have : side q r p = side p q r := side_rot p q r
        rw [this, side_sub]
        exact hc
      · have f1 : (sub p q).1 = - d.1 := by rw [← e1]; unfold sub; simp only; omega
        have f2 : (sub p q).2 = - d.2 := by rw [← e1]; unfold sub; simp only; omega
        have f3 : (sub r q).1 = d'.1 - d.1 := by rw [← e1, ← e2]; unfold sub; simp only; omega
        have f4 : (sub r q).2 = d'.2 - d.2 := by rw [← e1, ← e2]; unfold sub; simp only; omega
        unfold btw at *
        rw [f1, f2, f3, f4]
        rcases he with ⟨g1, g2⟩ | ⟨g1, g2⟩ <;> subst g1 <;> subst g2 <;> unfold ng <;> simp only <;> omega
    have ht : meet p q q r = true := (meet_iff _ _ _ _).2 (.inr (.inr (.inl ((tch_iff _ _ _).2 ⟨hon, n1, n3⟩))))
    rw [ht] at hm
    cases hm
  rcases hu' with ⟨e1, f1⟩ | ⟨e1, f1⟩ <;> rcases hv' with ⟨e2, f2⟩ | ⟨e2, f2⟩
  · rw [e1, e2] at hc ⊢; exact up_dot hu hv hc
  · have hc2 : cross u v = 0 := by rw [e1, e2, cross_ng_r] at hc; omega
    exact (key e1 e2 hu hv hc2 (.inl ⟨rfl, rfl⟩)).elim
  · have hc2 : cross u v = 0 := by rw [e1, e2, cross_ng_l] at hc; omega
    exact (key e1 e2 hu hv hc2 (.inr ⟨rfl, rfl⟩)).elim
  · rw [e1, e2] at hc ⊢
    have := up_dot hu hv (by rw [cross_ng_l, cross_ng_r] at hc; omega)
    rw [dot_ng_l, dot_ng_r]; omega
include hs
/-- no other way lies between -/
theorem Nb.clear {p r : Sp} (h : Nb m i k p r) {x : Int} (hx : isWay m x) (hp : frm m x = p) (hne : ¬ (wi x = i ∧ (wk m x = k ∨ wk m x + 1 = k))) : ¬ within (sub (pt m i k) p) (sub r p) (dr m x) := by
  intro hw
  obtain ⟨n1, n2, n3⟩ := h.ne R hi h0 hk
  obtain ⟨p1, d1⟩ := way_piece R hx
  have hS := nx_ne R hx
  have htri := hs.2.2.1
  -- the piece of the way, and the one from q to r
  have hq : meet p (nxp m x) (pt m i k) r = false := by
    have g1 : isP m i (k - 1) := ⟨hi, by omega⟩
    have g2 : isP m i k := ⟨hi, hk⟩
    have m1 := R.meet2 p1 g1 (fun h => hne ⟨h.1, by omega⟩)
    have m2 := R.meet2 p1 g2 (fun h => hne ⟨h.1, by omega⟩)
    rw [show k - 1 + 1 = k by omega] at m1
    rw [← meet_comm, meet_swap, meet_comm] at m1
    have way : ∀ a b, meet (pt m (wi x) (wk m x)) (pt m (wi x) (wk m x + 1)) a b = false → meet (frm m x) (nxp m x) a b = false := fun a b hh => by
      rcases d1 with ⟨c, d⟩ | ⟨c, d⟩
      · rw [c, d]; exact hh
      · rw [c, d, meet_swap]; exact hh
    rw [← hp]
    rcases h.e with ⟨a, b⟩ | ⟨a, b⟩
    · rw [b]; exact way _ _ m2
    · rw [b]; exact way _ _ m1
  -- the place where the way goes
  obtain ⟨t, ht, hte⟩ : ∃ t, inM m (wi x) t ∧ nxp m x = pt m (wi x) t := by
    rcases d1 with ⟨c, d⟩ | ⟨c, d⟩
    · exact ⟨_, ⟨p1.1, p1.2⟩, d⟩
    · exact ⟨_, ⟨p1.1, by have := p1.2; omega⟩, d⟩
  have htr : nxp m x ≠ p → nxp m x ≠ pt m i k → nxp m x ≠ r → tri p (pt m i k) r (nxp m x) = false := fun c1 c2 c3 => by
    rw [hte] at c1 c2 c3 ⊢
    have hmine : ¬ (wi x = i ∧ k ≤ t + 1 ∧ t ≤ k + 1) := by
      rintro ⟨y1, y2, y3⟩
      rw [y1] at c1 c2 c3
      rcases (show t = k - 1 ∨ t = k ∨ t = k + 1 by omega) with e | e | e <;> rw [e] at c1 c2 c3
      · rcases h.e with ⟨a, b⟩ | ⟨a, b⟩
        · exact c1 a.symm
        · exact c3 b.symm
      · exact c2 rfl
      · rcases h.e with ⟨a, b⟩ | ⟨a, b⟩
        · exact c3 b.symm
        · exact c1 a.symm
    rcases h.e with ⟨a, b⟩ | ⟨a, b⟩
    · rw [a] at c1
      rw [b] at c3
      rw [a, b]
      exact htri _ t ht hmine c1 c3
    · rw [a] at c1
      rw [b] at c3
      rw [a, b, tri_swap]
      exact htri _ t ht hmine c3 c1
  have hdx : dr m x = sub (nxp m x) p := by unfold dr; rw [hp]
  rw [hdx] at hw
  have hSp : nxp m x ≠ p := by rw [← hp]; exact hS
  generalize nxp m x = S at *
  generalize pt m i k = q at *
  have s1 : cross (sub q p) (sub r p) = side p q r := (side_sub p q r).symm
  have s2 : cross (sub q p) (sub S p) = side p q S := (side_sub p q S).symm
  have s3 : cross (sub S p) (sub r p) = side p S r := (side_sub p S r).symm
  have s4 : side r p S = side p S r := (side_rot r p S).symm
  have s5 : side p S q = - side p q S := by rw [← side_rot p S q, side_swap q S p, side_rot p q S]
  unfold within at hw
  rw [s1, s2, s3] at hw
  have hSq : S ≠ q := fun e => by rw [e, side_r] at hw; omega
  have hSr : S ≠ r := fun e => by rw [e, side_r] at hw; omega
  have ht := htr hSp hSq hSr
  have hcr : ¬ crs p S q r = true := fun e => by
    rw [(meet_iff p S q r).2 (by simp [e])] at hq
    cases hq
  unfold crs at hcr
  simp only [Bool.and_eq_true, decide_eq_true_eq] at hcr
  unfold tri at ht
  have hD : side q r p = side p q r := side_rot p q r
  have g : ∀ z, sgZ z = if 0 < z then 1 else if z < 0 then -1 else 0 := fun _ => rfl
  rcases hw with ⟨w1, w2, w3⟩ | ⟨w1, w2, w3⟩
  · rw [if_neg (by omega)] at ht
    rw [Bool.or_eq_false_iff] at ht
    have t1 := ht.1
    simp only [Bool.not_eq_false', Bool.or_eq_true, decide_eq_true_eq, sg_lt] at t1
    have hq2 : side q r S < 0 := by omega
    apply hcr
    rw [s5, hD]
    have v1 : sgZ (- side p q S) = -1 := by rw [g, if_neg (by omega), if_pos (by omega)]
    have v2 : sgZ (side p S r) = 1 := by rw [g, if_pos (by omega)]
    have v3 : sgZ (side p q r) = 1 := by rw [g, if_pos (by omega)]
    have v4 : sgZ (side q r S) = -1 := by rw [g, if_neg (by omega), if_pos (by omega)]
    rw [v1, v2, v3, v4]
    decide
  · rw [if_neg (by omega)] at ht
    rw [Bool.or_eq_false_iff] at ht
    have t1 := ht.2
    simp only [Bool.not_eq_false', Bool.or_eq_true, decide_eq_true_eq, sg_gt] at t1
    have hq2 : 0 < side q r S := by omega
    apply hcr
    rw [s5, hD]
    have v1 : sgZ (- side p q S) = 1 := by rw [g, if_pos (by omega)]
    have v2 : sgZ (side p S r) = -1 := by rw [g, if_neg (by omega), if_pos (by omega)]
    have v3 : sgZ (side p q r) = -1 := by rw [g, if_neg (by omega), if_pos (by omega)]
    have v4 : sgZ (side q r S) = 1 := by rw [g, if_pos (by omega)]
    rw [v1, v2, v3, v4]
    decide
end
end Shp
