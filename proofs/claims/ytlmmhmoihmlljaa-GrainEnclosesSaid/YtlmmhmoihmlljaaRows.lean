/-
  No cell of these rows narrows 'for every input' (looked for: loops, veiled, ifaces, maps, wideKeys, modest, calm, conditions, laid).
  DERIVED. THE GIVEN ROWS OF THIS SEAT. 5 by the template 'for every input the law returns true; each argument reads behind the call as it read before'; 0 by the template 'total and deterministic' (their statements: YtlmmhmoihmlljaaTotals.lean).
  GIVEN WITH THE SEED: the statements are not yours to turn. If you find one false, say at which input.
  Laid BY PROGRAM, IN A SANDBOX (cutbox-rows.mjs): the forced cells as the released guide's own fill.sh prints them over the translation f090615fe89a6a06… (all of the seat's roots in one cut). By AI agents, Wed Nov 11 2026. No macro, syntax, notation, axiom, sorry.
-/
import Derived.Test.YtlmmhmoihmlljaaChecked
import GoSem.Claim
import GoSem.ClaimJoined
import GoSem.ClaimMapViews
import Derived.JoinedTies
import Derived.KernelRfl
namespace Go.Proofs.Ytlmmhmoihmlljaa
/- THE CELL 'sum', in the pinned program and in every row, IS THE sha256 OF THE DUMP (.gsa) THAT YtlmmhmoihmlljaaProg.lean LOADS. Nothing in Lean hashes anything: it is a label: what it is worth is what the hold of that sum in a sandbox is worth. -/
noncomputable def Try.pinned : Pinned := { name := "ytlmmhmoihmlljaa", sum := "f090615fe89a6a069352b5d005d747fa23e0a4830afefbb238ccf59d46874e55", checked := Try.checked }
namespace Rows
def none {H : Type} : Left H := { results := [], args := [] }

/-- 'mercatorlaw1.GrainAngles': WHATEVER THE INPUT: true; the input reads as it did. -/
def grainAnglesSpec : ChangeSpec := { name := "grainAngles", fn := fun _ => fun
  | [d1, d2, d3, d4] => { results := [.lit (.bool true)], args := [d1, d2, d3, d4] }
  | _ => none }
def grainAnglesRow : OpenClaim := { program := "ytlmmhmoihmlljaa", sum := "f090615fe89a6a069352b5d005d747fa23e0a4830afefbb238ccf59d46874e55", func := "mercator/mercatorlaw1.GrainAngles", spec := "grainAngles", inPlace := ["math.Float64bits", "math.Float64frombits", "math.sqrt"], apart := false }
def GrainAnglesSaid : Prop := grainAnglesRow.holds Try.pinned (OpenSpec.ofChange grainAnglesSpec)

/-- ITS FALSE NEIGHBOUR: 'it returns false'. Refute it at one input. -/
def grainAnglesWrong : ChangeSpec := { name := "grainAngles", fn := fun _ => fun
  | [d1, d2, d3, d4] => { results := [.lit (.bool false)], args := [d1, d2, d3, d4] }
  | _ => none }
def GrainAnglesWrongFalsely : Prop := grainAnglesRow.holds Try.pinned (OpenSpec.ofChange grainAnglesWrong)

/-- 'mercatorlaw1.GrainSpans': WHATEVER THE INPUT: true; the input reads as it did. -/
def grainSpansSpec : ChangeSpec := { name := "grainSpans", fn := fun _ => fun
  | [d1, d2, d3, d4] => { results := [.lit (.bool true)], args := [d1, d2, d3, d4] }
  | _ => none }
def grainSpansRow : OpenClaim := { program := "ytlmmhmoihmlljaa", sum := "f090615fe89a6a069352b5d005d747fa23e0a4830afefbb238ccf59d46874e55", func := "mercator/mercatorlaw1.GrainSpans", spec := "grainSpans", inPlace := ["math.Float64frombits", "math.Float64bits", "math.sqrt"], unfollowed := true, recurses := true, apart := false }
def GrainSpansSaid : Prop := grainSpansRow.holds Try.pinned (OpenSpec.ofChange grainSpansSpec)

/-- ITS FALSE NEIGHBOUR: 'it returns false'. Refute it at one input. -/
def grainSpansWrong : ChangeSpec := { name := "grainSpans", fn := fun _ => fun
  | [d1, d2, d3, d4] => { results := [.lit (.bool false)], args := [d1, d2, d3, d4] }
  | _ => none }
def GrainSpansWrongFalsely : Prop := grainSpansRow.holds Try.pinned (OpenSpec.ofChange grainSpansWrong)

/-- 'mercatorlaw1.GrainEncloses': WHATEVER THE INPUT: true; the input reads as it did. -/
def grainEnclosesSpec : ChangeSpec := { name := "grainEncloses", fn := fun _ => fun
  | [d1, d2, d3, d4, d5] => { results := [.lit (.bool true)], args := [d1, d2, d3, d4, d5] }
  | _ => none }
def grainEnclosesRow : OpenClaim := { program := "ytlmmhmoihmlljaa", sum := "f090615fe89a6a069352b5d005d747fa23e0a4830afefbb238ccf59d46874e55", func := "mercator/mercatorlaw1.GrainEncloses", spec := "grainEncloses", inPlace := ["math.Float64frombits", "math.Float64bits", "math.sqrt"], unfollowed := true, recurses := true, apart := false }
def GrainEnclosesSaid : Prop := grainEnclosesRow.holds Try.pinned (OpenSpec.ofChange grainEnclosesSpec)

/-- ITS FALSE NEIGHBOUR: 'it returns false'. Refute it at one input. -/
def grainEnclosesWrong : ChangeSpec := { name := "grainEncloses", fn := fun _ => fun
  | [d1, d2, d3, d4, d5] => { results := [.lit (.bool false)], args := [d1, d2, d3, d4, d5] }
  | _ => none }
def GrainEnclosesWrongFalsely : Prop := grainEnclosesRow.holds Try.pinned (OpenSpec.ofChange grainEnclosesWrong)

/-- 'mercatorlaw1.GrainFunctions': WHATEVER THE INPUT: true; the input reads as it did. -/
def grainFunctionsSpec : ChangeSpec := { name := "grainFunctions", fn := fun _ => fun
  | [d] => { results := [.lit (.bool true)], args := [d] }
  | _ => none }
def grainFunctionsRow : OpenClaim := { program := "ytlmmhmoihmlljaa", sum := "f090615fe89a6a069352b5d005d747fa23e0a4830afefbb238ccf59d46874e55", func := "mercator/mercatorlaw1.GrainFunctions", spec := "grainFunctions", inPlace := ["math.Float64frombits", "math.Float64bits", "math.archFloor", "math.archTrunc"], apart := false }
def GrainFunctionsSaid : Prop := grainFunctionsRow.holds Try.pinned (OpenSpec.ofChange grainFunctionsSpec)

/-- ITS FALSE NEIGHBOUR: 'it returns false'. Refute it at one input. -/
def grainFunctionsWrong : ChangeSpec := { name := "grainFunctions", fn := fun _ => fun
  | [d] => { results := [.lit (.bool false)], args := [d] }
  | _ => none }
def GrainFunctionsWrongFalsely : Prop := grainFunctionsRow.holds Try.pinned (OpenSpec.ofChange grainFunctionsWrong)

/-- 'mercatorlaw1.GrainInverse': WHATEVER THE INPUT: true; the input reads as it did. -/
def grainInverseSpec : ChangeSpec := { name := "grainInverse", fn := fun _ => fun
  | [d1, d2] => { results := [.lit (.bool true)], args := [d1, d2] }
  | _ => none }
def grainInverseRow : OpenClaim := { program := "ytlmmhmoihmlljaa", sum := "f090615fe89a6a069352b5d005d747fa23e0a4830afefbb238ccf59d46874e55", func := "mercator/mercatorlaw1.GrainInverse", spec := "grainInverse", inPlace := ["math.Float64frombits", "math.Float64bits", "math.archFloor", "math.archTrunc"], apart := false }
def GrainInverseSaid : Prop := grainInverseRow.holds Try.pinned (OpenSpec.ofChange grainInverseSpec)

/-- ITS FALSE NEIGHBOUR: 'it returns false'. Refute it at one input. -/
def grainInverseWrong : ChangeSpec := { name := "grainInverse", fn := fun _ => fun
  | [d1, d2] => { results := [.lit (.bool false)], args := [d1, d2] }
  | _ => none }
def GrainInverseWrongFalsely : Prop := grainInverseRow.holds Try.pinned (OpenSpec.ofChange grainInverseWrong)

/- THE SECOND FORM. 'bulk': how many values and letters a reading holds, each counted each time it is reached (what is shared counts as often as it is met; a slice's spare places count too). A statement '..UptoSaid' is the law's where the arguments, and the package variables that the reading takes, are together of bulk at most 1048576: NARROWER than '..Said'. Prove '..Said' where nothing that the law and all that it calls make is longer than what came in: it says more and counts as full. Else prove '..UptoSaid'. A law counts once. -/
mutual
def uptoBulk {H : Type} : DataW H → Nat
  | .lit (.string bytes) => bytes.length + 1
  | .lit _ => 1
  | .nil => 1
  | .ptr d => uptoBulk d + 1
  | .slice elems spare => uptoBulkAll elems + uptoBulkAll spare + 1
  | .agg parts => uptoBulkAll parts + 1
  | .iface _ d => uptoBulk d + 1
  | .map entries => uptoBulkEntries entries + 1
  | .held _ => 1
def uptoBulkAll {H : Type} : List (DataW H) → Nat
  | [] => 0
  | d :: r => uptoBulk d + uptoBulkAll r
def uptoBulkEntries {H : Type} : List (Lit × DataW H) → Nat
  | [] => 0
  | x :: r => uptoBulkEntry x + uptoBulkEntries r
def uptoBulkEntry {H : Type} : Lit × DataW H → Nat
  | (.string bytes, d) => bytes.length + uptoBulk d + 1
  | (_, d) => uptoBulk d + 1
 end
def uptoSmall : (H : Type) → List (DataW H) → Bool := fun _ ds => decide (uptoBulkAll ds ≤ 1048576)
def OpenSpec.upto (s : _root_.Go.ChangeSpec) : _root_.Go.OpenSpec := { _root_.Go.OpenSpec.ofChange s with cond := some uptoSmall }

/-- 'mercatorlaw1.GrainAngles', WHERE WHAT IT READS IS OF BULK AT MOST 1048576: true; the input reads as it did. -/
def grainAnglesUptoRow : OpenClaim := { program := "ytlmmhmoihmlljaa", sum := "f090615fe89a6a069352b5d005d747fa23e0a4830afefbb238ccf59d46874e55", func := "mercator/mercatorlaw1.GrainAngles", spec := "grainAngles", inPlace := ["math.Float64bits", "math.Float64frombits", "math.sqrt"], apart := false, narrowed := true }
def GrainAnglesUptoSaid : Prop := grainAnglesUptoRow.holds Try.pinned (OpenSpec.upto grainAnglesSpec)

/-- 'mercatorlaw1.GrainSpans', WHERE WHAT IT READS IS OF BULK AT MOST 1048576: true; the input reads as it did. -/
def grainSpansUptoRow : OpenClaim := { program := "ytlmmhmoihmlljaa", sum := "f090615fe89a6a069352b5d005d747fa23e0a4830afefbb238ccf59d46874e55", func := "mercator/mercatorlaw1.GrainSpans", spec := "grainSpans", inPlace := ["math.Float64frombits", "math.Float64bits", "math.sqrt"], unfollowed := true, recurses := true, apart := false, narrowed := true }
def GrainSpansUptoSaid : Prop := grainSpansUptoRow.holds Try.pinned (OpenSpec.upto grainSpansSpec)

/-- 'mercatorlaw1.GrainEncloses', WHERE WHAT IT READS IS OF BULK AT MOST 1048576: true; the input reads as it did. -/
def grainEnclosesUptoRow : OpenClaim := { program := "ytlmmhmoihmlljaa", sum := "f090615fe89a6a069352b5d005d747fa23e0a4830afefbb238ccf59d46874e55", func := "mercator/mercatorlaw1.GrainEncloses", spec := "grainEncloses", inPlace := ["math.Float64frombits", "math.Float64bits", "math.sqrt"], unfollowed := true, recurses := true, apart := false, narrowed := true }
def GrainEnclosesUptoSaid : Prop := grainEnclosesUptoRow.holds Try.pinned (OpenSpec.upto grainEnclosesSpec)

/-- 'mercatorlaw1.GrainFunctions', WHERE WHAT IT READS IS OF BULK AT MOST 1048576: true; the input reads as it did. -/
def grainFunctionsUptoRow : OpenClaim := { program := "ytlmmhmoihmlljaa", sum := "f090615fe89a6a069352b5d005d747fa23e0a4830afefbb238ccf59d46874e55", func := "mercator/mercatorlaw1.GrainFunctions", spec := "grainFunctions", inPlace := ["math.Float64frombits", "math.Float64bits", "math.archFloor", "math.archTrunc"], apart := false, narrowed := true }
def GrainFunctionsUptoSaid : Prop := grainFunctionsUptoRow.holds Try.pinned (OpenSpec.upto grainFunctionsSpec)

/-- 'mercatorlaw1.GrainInverse', WHERE WHAT IT READS IS OF BULK AT MOST 1048576: true; the input reads as it did. -/
def grainInverseUptoRow : OpenClaim := { program := "ytlmmhmoihmlljaa", sum := "f090615fe89a6a069352b5d005d747fa23e0a4830afefbb238ccf59d46874e55", func := "mercator/mercatorlaw1.GrainInverse", spec := "grainInverse", inPlace := ["math.Float64frombits", "math.Float64bits", "math.archFloor", "math.archTrunc"], apart := false, narrowed := true }
def GrainInverseUptoSaid : Prop := grainInverseUptoRow.holds Try.pinned (OpenSpec.upto grainInverseSpec)

end Rows
end Go.Proofs.Ytlmmhmoihmlljaa
