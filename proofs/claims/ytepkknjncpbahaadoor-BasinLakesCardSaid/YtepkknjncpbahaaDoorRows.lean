/-
  NARROWER THAN 'FOR EVERY INPUT', by the rows' own cells (each row's printed sentence says how): DrainAlways: laid · DrainFloods: laid · BasinParts: laid · DrainGathers: laid · DrainStreams: laid · BasinLakes: laid.
  DERIVED. THE GIVEN ROWS OF THIS SEAT. 6 by the template 'for every input the law returns true; each argument reads behind the call as it read before'; 0 by the template 'total and deterministic' (their statements: YtepkknjncpbahaaDoorTotals.lean).
  GIVEN WITH THE SEED: the statements are not yours to turn. If you find one false, say at which input.
  Laid BY PROGRAM, IN A SANDBOX (cutbox-rows.mjs): the forced cells as the released guide's own fill.sh prints them over the translation 17c372ef84b44c83… (all of the seat's roots in one cut). By AI agents, Wed Nov 11 2026. No macro, syntax, notation, axiom, sorry.
-/
import Derived.Test.YtepkknjncpbahaaDoorChecked
import GoSem.Claim
import GoSem.ClaimJoined
import GoSem.ClaimMapViews
import Derived.JoinedTies
import Derived.KernelRfl
namespace Go.Proofs.YtepkknjncpbahaaDoor
/- THE CELL 'sum', in the pinned program and in every row, IS THE sha256 OF THE DUMP (.gsa) THAT YtepkknjncpbahaaDoorProg.lean LOADS. Nothing in Lean hashes anything: it is a label: what it is worth is what the hold of that sum in a sandbox is worth. -/
noncomputable def Tryd.pinned : Pinned := { name := "ytepkknjncpbahaadoor", sum := "17c372ef84b44c83b51cf61d2f5991f408a5750b67ad1a07651fb97dac050da3", checked := Tryd.checked }
namespace Rows
def none {H : Type} : Left H := { results := [], args := [] }

/- WHAT THE LISTED PACKAGE-LEVEL VARIABLES READ AS WHEN THE CALL BEGINS. Each datum BY PROGRAM (the guide's laid-datum.mjs) off the statement by which the dump's own 'gosem.cut.vars' lays the variable. In a bare row this is a premise. The card (YtepkknjncpbahaaDoorCards.lean) ties it to the program's text. -/
def laid_mercator_api_ErrBound {H : Type} : DataW H := .iface "*errors.errorString" (.ptr (.agg [.lit (.string [109, 101, 114, 99, 97, 116, 111, 114, 58, 32, 98, 111, 117, 110, 100])]))
def laid_mercator_api_ErrShape {H : Type} : DataW H := .iface "*errors.errorString" (.ptr (.agg [.lit (.string [109, 101, 114, 99, 97, 116, 111, 114, 58, 32, 115, 104, 97, 112, 101])]))
def laid_mercator_api_ErrRange {H : Type} : DataW H := .iface "*errors.errorString" (.ptr (.agg [.lit (.string [109, 101, 114, 99, 97, 116, 111, 114, 58, 32, 114, 97, 110, 103, 101])]))
def laid_errors_errorType {H : Type} : DataW H := .iface "internal/reflectlite.rtype" (.agg [.ptr (.lit (.string [101, 114, 114, 111, 114]))])
def laid_mercator_api_ErrText {H : Type} : DataW H := .iface "*errors.errorString" (.ptr (.agg [.lit (.string [109, 101, 114, 99, 97, 116, 111, 114, 58, 32, 116, 101, 120, 116])]))
def laid_mercator_api_ErrName {H : Type} : DataW H := .iface "*errors.errorString" (.ptr (.agg [.lit (.string [109, 101, 114, 99, 97, 116, 111, 114, 58, 32, 110, 97, 109, 101])]))
def laid_mercator_api_ErrNone {H : Type} : DataW H := .iface "*errors.errorString" (.ptr (.agg [.lit (.string [109, 101, 114, 99, 97, 116, 111, 114, 58, 32, 110, 111, 110, 101])]))
def laid_mercator_api_ErrOrder {H : Type} : DataW H := .iface "*errors.errorString" (.ptr (.agg [.lit (.string [109, 101, 114, 99, 97, 116, 111, 114, 58, 32, 111, 114, 100, 101, 114])]))
def laid_mercator_api_ErrFile {H : Type} : DataW H := .iface "*errors.errorString" (.ptr (.agg [.lit (.string [109, 101, 114, 99, 97, 116, 111, 114, 58, 32, 102, 105, 108, 101])]))

/-- 'mercatorlaw4.DrainAlways': WHATEVER THE INPUT: true; the input reads as it did. -/
def drainAlwaysSpec : ChangeSpec := { name := "drainAlways", fn := fun _ => fun
  | [d1, d2] => { results := [.lit (.bool true)], args := [d1, d2] }
  | _ => none }
def drainAlwaysRow : OpenClaim := { program := "ytepkknjncpbahaadoor", sum := "17c372ef84b44c83b51cf61d2f5991f408a5750b67ad1a07651fb97dac050da3", func := "mercator/mercatorlaw4.DrainAlways", spec := "drainAlways", unfollowed := true, recurses := true, named := ["mercator/api.ErrBound", "mercator/api.ErrShape", "mercator/api.ErrRange"], apart := false, laid := [("mercator/api.ErrBound", laid_mercator_api_ErrBound), ("mercator/api.ErrShape", laid_mercator_api_ErrShape), ("mercator/api.ErrRange", laid_mercator_api_ErrRange)] }
def DrainAlwaysSaid : Prop := drainAlwaysRow.holds Tryd.pinned (OpenSpec.ofChange drainAlwaysSpec)

/-- ITS FALSE NEIGHBOUR: 'it returns false'. Refute it at one input. -/
def drainAlwaysWrong : ChangeSpec := { name := "drainAlways", fn := fun _ => fun
  | [d1, d2] => { results := [.lit (.bool false)], args := [d1, d2] }
  | _ => none }
def DrainAlwaysWrongFalsely : Prop := drainAlwaysRow.holds Tryd.pinned (OpenSpec.ofChange drainAlwaysWrong)

/-- 'mercatorlaw4.DrainFloods': WHATEVER THE INPUT: true; the input reads as it did. -/
def drainFloodsSpec : ChangeSpec := { name := "drainFloods", fn := fun _ => fun
  | [d] => { results := [.lit (.bool true)], args := [d] }
  | _ => none }
def drainFloodsRow : OpenClaim := { program := "ytepkknjncpbahaadoor", sum := "17c372ef84b44c83b51cf61d2f5991f408a5750b67ad1a07651fb97dac050da3", func := "mercator/mercatorlaw4.DrainFloods", spec := "drainFloods", inPlace := ["internal/reflectlite.ValueOf", "(internal/reflectlite.Value).Type", "(internal/reflectlite.Value).IsNil", "internal/reflectlite.TypeOf", "(internal/reflectlite.Value).Elem", "(internal/reflectlite.Value).Set"], unfollowed := true, recurses := true, named := ["mercator/api.ErrBound", "mercator/api.ErrShape", "mercator/api.ErrRange", "mercator/api.ErrText", "mercator/api.ErrName", "mercator/api.ErrNone", "mercator/api.ErrOrder", "mercator/api.ErrFile", "errors.errorType"], apart := false, laid := [("errors.errorType", laid_errors_errorType), ("mercator/api.ErrText", laid_mercator_api_ErrText), ("mercator/api.ErrBound", laid_mercator_api_ErrBound), ("mercator/api.ErrShape", laid_mercator_api_ErrShape), ("mercator/api.ErrRange", laid_mercator_api_ErrRange), ("mercator/api.ErrName", laid_mercator_api_ErrName), ("mercator/api.ErrNone", laid_mercator_api_ErrNone), ("mercator/api.ErrOrder", laid_mercator_api_ErrOrder), ("mercator/api.ErrFile", laid_mercator_api_ErrFile)] }
def DrainFloodsSaid : Prop := drainFloodsRow.holds Tryd.pinned (OpenSpec.ofChange drainFloodsSpec)

/-- ITS FALSE NEIGHBOUR: 'it returns false'. Refute it at one input. -/
def drainFloodsWrong : ChangeSpec := { name := "drainFloods", fn := fun _ => fun
  | [d] => { results := [.lit (.bool false)], args := [d] }
  | _ => none }
def DrainFloodsWrongFalsely : Prop := drainFloodsRow.holds Tryd.pinned (OpenSpec.ofChange drainFloodsWrong)

/-- 'mercatorlaw4.BasinParts': WHATEVER THE INPUT: true; the input reads as it did. -/
def basinPartsSpec : ChangeSpec := { name := "basinParts", fn := fun _ => fun
  | [d] => { results := [.lit (.bool true)], args := [d] }
  | _ => none }
def basinPartsRow : OpenClaim := { program := "ytepkknjncpbahaadoor", sum := "17c372ef84b44c83b51cf61d2f5991f408a5750b67ad1a07651fb97dac050da3", func := "mercator/mercatorlaw4.BasinParts", spec := "basinParts", inPlace := ["internal/reflectlite.ValueOf", "(internal/reflectlite.Value).Type", "(internal/reflectlite.Value).IsNil", "internal/reflectlite.TypeOf", "(internal/reflectlite.Value).Elem", "(internal/reflectlite.Value).Set"], unfollowed := true, recurses := true, named := ["mercator/api.ErrBound", "mercator/api.ErrShape", "mercator/api.ErrRange", "mercator/api.ErrText", "mercator/api.ErrName", "mercator/api.ErrNone", "mercator/api.ErrOrder", "mercator/api.ErrFile", "errors.errorType"], apart := false, laid := [("errors.errorType", laid_errors_errorType), ("mercator/api.ErrText", laid_mercator_api_ErrText), ("mercator/api.ErrBound", laid_mercator_api_ErrBound), ("mercator/api.ErrShape", laid_mercator_api_ErrShape), ("mercator/api.ErrRange", laid_mercator_api_ErrRange), ("mercator/api.ErrName", laid_mercator_api_ErrName), ("mercator/api.ErrNone", laid_mercator_api_ErrNone), ("mercator/api.ErrOrder", laid_mercator_api_ErrOrder), ("mercator/api.ErrFile", laid_mercator_api_ErrFile)] }
def BasinPartsSaid : Prop := basinPartsRow.holds Tryd.pinned (OpenSpec.ofChange basinPartsSpec)

/-- ITS FALSE NEIGHBOUR: 'it returns false'. Refute it at one input. -/
def basinPartsWrong : ChangeSpec := { name := "basinParts", fn := fun _ => fun
  | [d] => { results := [.lit (.bool false)], args := [d] }
  | _ => none }
def BasinPartsWrongFalsely : Prop := basinPartsRow.holds Tryd.pinned (OpenSpec.ofChange basinPartsWrong)

/-- 'mercatorlaw4.DrainGathers': WHATEVER THE INPUT: true; the input reads as it did. -/
def drainGathersSpec : ChangeSpec := { name := "drainGathers", fn := fun _ => fun
  | [d1, d2, d3] => { results := [.lit (.bool true)], args := [d1, d2, d3] }
  | _ => none }
def drainGathersRow : OpenClaim := { program := "ytepkknjncpbahaadoor", sum := "17c372ef84b44c83b51cf61d2f5991f408a5750b67ad1a07651fb97dac050da3", func := "mercator/mercatorlaw4.DrainGathers", spec := "drainGathers", inPlace := ["internal/reflectlite.ValueOf", "(internal/reflectlite.Value).Type", "(internal/reflectlite.Value).IsNil", "internal/reflectlite.TypeOf", "(internal/reflectlite.Value).Elem", "(internal/reflectlite.Value).Set"], unfollowed := true, recurses := true, named := ["mercator/api.ErrBound", "mercator/api.ErrShape", "mercator/api.ErrRange", "mercator/api.ErrText", "mercator/api.ErrName", "mercator/api.ErrNone", "mercator/api.ErrOrder", "mercator/api.ErrFile", "errors.errorType"], apart := false, laid := [("errors.errorType", laid_errors_errorType), ("mercator/api.ErrText", laid_mercator_api_ErrText), ("mercator/api.ErrBound", laid_mercator_api_ErrBound), ("mercator/api.ErrShape", laid_mercator_api_ErrShape), ("mercator/api.ErrRange", laid_mercator_api_ErrRange), ("mercator/api.ErrName", laid_mercator_api_ErrName), ("mercator/api.ErrNone", laid_mercator_api_ErrNone), ("mercator/api.ErrOrder", laid_mercator_api_ErrOrder), ("mercator/api.ErrFile", laid_mercator_api_ErrFile)] }
def DrainGathersSaid : Prop := drainGathersRow.holds Tryd.pinned (OpenSpec.ofChange drainGathersSpec)

/-- ITS FALSE NEIGHBOUR: 'it returns false'. Refute it at one input. -/
def drainGathersWrong : ChangeSpec := { name := "drainGathers", fn := fun _ => fun
  | [d1, d2, d3] => { results := [.lit (.bool false)], args := [d1, d2, d3] }
  | _ => none }
def DrainGathersWrongFalsely : Prop := drainGathersRow.holds Tryd.pinned (OpenSpec.ofChange drainGathersWrong)

/-- 'mercatorlaw4.DrainStreams': WHATEVER THE INPUT: true; the input reads as it did. -/
def drainStreamsSpec : ChangeSpec := { name := "drainStreams", fn := fun _ => fun
  | [d1, d2] => { results := [.lit (.bool true)], args := [d1, d2] }
  | _ => none }
def drainStreamsRow : OpenClaim := { program := "ytepkknjncpbahaadoor", sum := "17c372ef84b44c83b51cf61d2f5991f408a5750b67ad1a07651fb97dac050da3", func := "mercator/mercatorlaw4.DrainStreams", spec := "drainStreams", inPlace := ["internal/reflectlite.ValueOf", "(internal/reflectlite.Value).Type", "(internal/reflectlite.Value).IsNil", "internal/reflectlite.TypeOf", "(internal/reflectlite.Value).Elem", "(internal/reflectlite.Value).Set"], unfollowed := true, recurses := true, named := ["mercator/api.ErrBound", "mercator/api.ErrShape", "mercator/api.ErrRange", "mercator/api.ErrText", "mercator/api.ErrName", "mercator/api.ErrNone", "mercator/api.ErrOrder", "mercator/api.ErrFile", "errors.errorType"], apart := false, laid := [("errors.errorType", laid_errors_errorType), ("mercator/api.ErrText", laid_mercator_api_ErrText), ("mercator/api.ErrBound", laid_mercator_api_ErrBound), ("mercator/api.ErrShape", laid_mercator_api_ErrShape), ("mercator/api.ErrRange", laid_mercator_api_ErrRange), ("mercator/api.ErrName", laid_mercator_api_ErrName), ("mercator/api.ErrNone", laid_mercator_api_ErrNone), ("mercator/api.ErrOrder", laid_mercator_api_ErrOrder), ("mercator/api.ErrFile", laid_mercator_api_ErrFile)] }
def DrainStreamsSaid : Prop := drainStreamsRow.holds Tryd.pinned (OpenSpec.ofChange drainStreamsSpec)

/-- ITS FALSE NEIGHBOUR: 'it returns false'. Refute it at one input. -/
def drainStreamsWrong : ChangeSpec := { name := "drainStreams", fn := fun _ => fun
  | [d1, d2] => { results := [.lit (.bool false)], args := [d1, d2] }
  | _ => none }
def DrainStreamsWrongFalsely : Prop := drainStreamsRow.holds Tryd.pinned (OpenSpec.ofChange drainStreamsWrong)

/-- 'mercatorlaw4.BasinLakes': WHATEVER THE INPUT: true; the input reads as it did. -/
def basinLakesSpec : ChangeSpec := { name := "basinLakes", fn := fun _ => fun
  | [d1, d2] => { results := [.lit (.bool true)], args := [d1, d2] }
  | _ => none }
def basinLakesRow : OpenClaim := { program := "ytepkknjncpbahaadoor", sum := "17c372ef84b44c83b51cf61d2f5991f408a5750b67ad1a07651fb97dac050da3", func := "mercator/mercatorlaw4.BasinLakes", spec := "basinLakes", inPlace := ["internal/reflectlite.ValueOf", "(internal/reflectlite.Value).Type", "(internal/reflectlite.Value).IsNil", "internal/reflectlite.TypeOf", "(internal/reflectlite.Value).Elem", "(internal/reflectlite.Value).Set"], unfollowed := true, recurses := true, named := ["mercator/api.ErrBound", "mercator/api.ErrShape", "mercator/api.ErrRange", "mercator/api.ErrText", "mercator/api.ErrName", "mercator/api.ErrNone", "mercator/api.ErrOrder", "mercator/api.ErrFile", "errors.errorType"], apart := false, laid := [("errors.errorType", laid_errors_errorType), ("mercator/api.ErrText", laid_mercator_api_ErrText), ("mercator/api.ErrBound", laid_mercator_api_ErrBound), ("mercator/api.ErrShape", laid_mercator_api_ErrShape), ("mercator/api.ErrRange", laid_mercator_api_ErrRange), ("mercator/api.ErrName", laid_mercator_api_ErrName), ("mercator/api.ErrNone", laid_mercator_api_ErrNone), ("mercator/api.ErrOrder", laid_mercator_api_ErrOrder), ("mercator/api.ErrFile", laid_mercator_api_ErrFile)] }
def BasinLakesSaid : Prop := basinLakesRow.holds Tryd.pinned (OpenSpec.ofChange basinLakesSpec)

/-- ITS FALSE NEIGHBOUR: 'it returns false'. Refute it at one input. -/
def basinLakesWrong : ChangeSpec := { name := "basinLakes", fn := fun _ => fun
  | [d1, d2] => { results := [.lit (.bool false)], args := [d1, d2] }
  | _ => none }
def BasinLakesWrongFalsely : Prop := basinLakesRow.holds Tryd.pinned (OpenSpec.ofChange basinLakesWrong)

/- THE SECOND FORM. 'bulk': how many values and letters a reading holds, each counted each time it is reached (what is shared counts as often as it is met; a slice's spare places count too). A statement '..UptoSaid' is the law's where the arguments, and the package variables that the reading takes, are together of bulk at most 1048576: NARROWER than '..Said'. Prove '..Said' where nothing that the law and all that it calls make is longer than what came in: it says more and counts as full. Else prove '..UptoSaid'. A law counts once. -/
mutual
def uptoBulk {H : Type} : DataW H → Nat
  | .lit (.string bytes) => bytes.length + 1
  | .lit _ => 1
  | .nil => 1
  | .ptr d => uptoBulk d + 1
  | .slice elems spare => uptoBulkAll elems + uptoBulkAll spare + 1
  | .agg parts => uptoBulkAll parts + 1
  | .iface _ d => uptoBulk d + 1
  | .map entries => uptoBulkEntries entries + 1
  | .held _ => 1
def uptoBulkAll {H : Type} : List (DataW H) → Nat
  | [] => 0
  | d :: r => uptoBulk d + uptoBulkAll r
def uptoBulkEntries {H : Type} : List (Lit × DataW H) → Nat
  | [] => 0
  | x :: r => uptoBulkEntry x + uptoBulkEntries r
def uptoBulkEntry {H : Type} : Lit × DataW H → Nat
  | (.string bytes, d) => bytes.length + uptoBulk d + 1
  | (_, d) => uptoBulk d + 1
 end
def uptoSmall : (H : Type) → List (DataW H) → Bool := fun _ ds => decide (uptoBulkAll ds ≤ 1048576)
def OpenSpec.upto (s : _root_.Go.ChangeSpec) : _root_.Go.OpenSpec := { _root_.Go.OpenSpec.ofChange s with cond := some uptoSmall }

/-- 'mercatorlaw4.DrainAlways', WHERE WHAT IT READS IS OF BULK AT MOST 1048576: true; the input reads as it did. -/
def drainAlwaysUptoRow : OpenClaim := { program := "ytepkknjncpbahaadoor", sum := "17c372ef84b44c83b51cf61d2f5991f408a5750b67ad1a07651fb97dac050da3", func := "mercator/mercatorlaw4.DrainAlways", spec := "drainAlways", unfollowed := true, recurses := true, named := ["mercator/api.ErrBound", "mercator/api.ErrShape", "mercator/api.ErrRange"], apart := false, laid := [("mercator/api.ErrBound", laid_mercator_api_ErrBound), ("mercator/api.ErrShape", laid_mercator_api_ErrShape), ("mercator/api.ErrRange", laid_mercator_api_ErrRange)], narrowed := true }
def DrainAlwaysUptoSaid : Prop := drainAlwaysUptoRow.holds Tryd.pinned (OpenSpec.upto drainAlwaysSpec)

/-- 'mercatorlaw4.DrainFloods', WHERE WHAT IT READS IS OF BULK AT MOST 1048576: true; the input reads as it did. -/
def drainFloodsUptoRow : OpenClaim := { program := "ytepkknjncpbahaadoor", sum := "17c372ef84b44c83b51cf61d2f5991f408a5750b67ad1a07651fb97dac050da3", func := "mercator/mercatorlaw4.DrainFloods", spec := "drainFloods", inPlace := ["internal/reflectlite.ValueOf", "(internal/reflectlite.Value).Type", "(internal/reflectlite.Value).IsNil", "internal/reflectlite.TypeOf", "(internal/reflectlite.Value).Elem", "(internal/reflectlite.Value).Set"], unfollowed := true, recurses := true, named := ["mercator/api.ErrBound", "mercator/api.ErrShape", "mercator/api.ErrRange", "mercator/api.ErrText", "mercator/api.ErrName", "mercator/api.ErrNone", "mercator/api.ErrOrder", "mercator/api.ErrFile", "errors.errorType"], apart := false, laid := [("errors.errorType", laid_errors_errorType), ("mercator/api.ErrText", laid_mercator_api_ErrText), ("mercator/api.ErrBound", laid_mercator_api_ErrBound), ("mercator/api.ErrShape", laid_mercator_api_ErrShape), ("mercator/api.ErrRange", laid_mercator_api_ErrRange), ("mercator/api.ErrName", laid_mercator_api_ErrName), ("mercator/api.ErrNone", laid_mercator_api_ErrNone), ("mercator/api.ErrOrder", laid_mercator_api_ErrOrder), ("mercator/api.ErrFile", laid_mercator_api_ErrFile)], narrowed := true }
def DrainFloodsUptoSaid : Prop := drainFloodsUptoRow.holds Tryd.pinned (OpenSpec.upto drainFloodsSpec)

/-- 'mercatorlaw4.BasinParts', WHERE WHAT IT READS IS OF BULK AT MOST 1048576: true; the input reads as it did. -/
def basinPartsUptoRow : OpenClaim := { program := "ytepkknjncpbahaadoor", sum := "17c372ef84b44c83b51cf61d2f5991f408a5750b67ad1a07651fb97dac050da3", func := "mercator/mercatorlaw4.BasinParts", spec := "basinParts", inPlace := ["internal/reflectlite.ValueOf", "(internal/reflectlite.Value).Type", "(internal/reflectlite.Value).IsNil", "internal/reflectlite.TypeOf", "(internal/reflectlite.Value).Elem", "(internal/reflectlite.Value).Set"], unfollowed := true, recurses := true, named := ["mercator/api.ErrBound", "mercator/api.ErrShape", "mercator/api.ErrRange", "mercator/api.ErrText", "mercator/api.ErrName", "mercator/api.ErrNone", "mercator/api.ErrOrder", "mercator/api.ErrFile", "errors.errorType"], apart := false, laid := [("errors.errorType", laid_errors_errorType), ("mercator/api.ErrText", laid_mercator_api_ErrText), ("mercator/api.ErrBound", laid_mercator_api_ErrBound), ("mercator/api.ErrShape", laid_mercator_api_ErrShape), ("mercator/api.ErrRange", laid_mercator_api_ErrRange), ("mercator/api.ErrName", laid_mercator_api_ErrName), ("mercator/api.ErrNone", laid_mercator_api_ErrNone), ("mercator/api.ErrOrder", laid_mercator_api_ErrOrder), ("mercator/api.ErrFile", laid_mercator_api_ErrFile)], narrowed := true }
def BasinPartsUptoSaid : Prop := basinPartsUptoRow.holds Tryd.pinned (OpenSpec.upto basinPartsSpec)

/-- 'mercatorlaw4.DrainGathers', WHERE WHAT IT READS IS OF BULK AT MOST 1048576: true; the input reads as it did. -/
def drainGathersUptoRow : OpenClaim := { program := "ytepkknjncpbahaadoor", sum := "17c372ef84b44c83b51cf61d2f5991f408a5750b67ad1a07651fb97dac050da3", func := "mercator/mercatorlaw4.DrainGathers", spec := "drainGathers", inPlace := ["internal/reflectlite.ValueOf", "(internal/reflectlite.Value).Type", "(internal/reflectlite.Value).IsNil", "internal/reflectlite.TypeOf", "(internal/reflectlite.Value).Elem", "(internal/reflectlite.Value).Set"], unfollowed := true, recurses := true, named := ["mercator/api.ErrBound", "mercator/api.ErrShape", "mercator/api.ErrRange", "mercator/api.ErrText", "mercator/api.ErrName", "mercator/api.ErrNone", "mercator/api.ErrOrder", "mercator/api.ErrFile", "errors.errorType"], apart := false, laid := [("errors.errorType", laid_errors_errorType), ("mercator/api.ErrText", laid_mercator_api_ErrText), ("mercator/api.ErrBound", laid_mercator_api_ErrBound), ("mercator/api.ErrShape", laid_mercator_api_ErrShape), ("mercator/api.ErrRange", laid_mercator_api_ErrRange), ("mercator/api.ErrName", laid_mercator_api_ErrName), ("mercator/api.ErrNone", laid_mercator_api_ErrNone), ("mercator/api.ErrOrder", laid_mercator_api_ErrOrder), ("mercator/api.ErrFile", laid_mercator_api_ErrFile)], narrowed := true }
def DrainGathersUptoSaid : Prop := drainGathersUptoRow.holds Tryd.pinned (OpenSpec.upto drainGathersSpec)

/-- 'mercatorlaw4.DrainStreams', WHERE WHAT IT READS IS OF BULK AT MOST 1048576: true; the input reads as it did. -/
def drainStreamsUptoRow : OpenClaim := { program := "ytepkknjncpbahaadoor", sum := "17c372ef84b44c83b51cf61d2f5991f408a5750b67ad1a07651fb97dac050da3", func := "mercator/mercatorlaw4.DrainStreams", spec := "drainStreams", inPlace := ["internal/reflectlite.ValueOf", "(internal/reflectlite.Value).Type", "(internal/reflectlite.Value).IsNil", "internal/reflectlite.TypeOf", "(internal/reflectlite.Value).Elem", "(internal/reflectlite.Value).Set"], unfollowed := true, recurses := true, named := ["mercator/api.ErrBound", "mercator/api.ErrShape", "mercator/api.ErrRange", "mercator/api.ErrText", "mercator/api.ErrName", "mercator/api.ErrNone", "mercator/api.ErrOrder", "mercator/api.ErrFile", "errors.errorType"], apart := false, laid := [("errors.errorType", laid_errors_errorType), ("mercator/api.ErrText", laid_mercator_api_ErrText), ("mercator/api.ErrBound", laid_mercator_api_ErrBound), ("mercator/api.ErrShape", laid_mercator_api_ErrShape), ("mercator/api.ErrRange", laid_mercator_api_ErrRange), ("mercator/api.ErrName", laid_mercator_api_ErrName), ("mercator/api.ErrNone", laid_mercator_api_ErrNone), ("mercator/api.ErrOrder", laid_mercator_api_ErrOrder), ("mercator/api.ErrFile", laid_mercator_api_ErrFile)], narrowed := true }
def DrainStreamsUptoSaid : Prop := drainStreamsUptoRow.holds Tryd.pinned (OpenSpec.upto drainStreamsSpec)

/-- 'mercatorlaw4.BasinLakes', WHERE WHAT IT READS IS OF BULK AT MOST 1048576: true; the input reads as it did. -/
def basinLakesUptoRow : OpenClaim := { program := "ytepkknjncpbahaadoor", sum := "17c372ef84b44c83b51cf61d2f5991f408a5750b67ad1a07651fb97dac050da3", func := "mercator/mercatorlaw4.BasinLakes", spec := "basinLakes", inPlace := ["internal/reflectlite.ValueOf", "(internal/reflectlite.Value).Type", "(internal/reflectlite.Value).IsNil", "internal/reflectlite.TypeOf", "(internal/reflectlite.Value).Elem", "(internal/reflectlite.Value).Set"], unfollowed := true, recurses := true, named := ["mercator/api.ErrBound", "mercator/api.ErrShape", "mercator/api.ErrRange", "mercator/api.ErrText", "mercator/api.ErrName", "mercator/api.ErrNone", "mercator/api.ErrOrder", "mercator/api.ErrFile", "errors.errorType"], apart := false, laid := [("errors.errorType", laid_errors_errorType), ("mercator/api.ErrText", laid_mercator_api_ErrText), ("mercator/api.ErrBound", laid_mercator_api_ErrBound), ("mercator/api.ErrShape", laid_mercator_api_ErrShape), ("mercator/api.ErrRange", laid_mercator_api_ErrRange), ("mercator/api.ErrName", laid_mercator_api_ErrName), ("mercator/api.ErrNone", laid_mercator_api_ErrNone), ("mercator/api.ErrOrder", laid_mercator_api_ErrOrder), ("mercator/api.ErrFile", laid_mercator_api_ErrFile)], narrowed := true }
def BasinLakesUptoSaid : Prop := basinLakesUptoRow.holds Tryd.pinned (OpenSpec.upto basinLakesSpec)

end Rows
end Go.Proofs.YtepkknjncpbahaaDoor
