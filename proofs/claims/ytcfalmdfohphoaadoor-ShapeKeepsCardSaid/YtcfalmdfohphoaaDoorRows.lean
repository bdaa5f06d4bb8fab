/-
  NARROWER THAN 'FOR EVERY INPUT', by the rows' own cells (each row's printed sentence says how): ShapeEuler: laid · ShapeKeeps: laid · ShapeFaces: laid · ShapeThins: laid.
  DERIVED. THE GIVEN ROWS OF THIS SEAT. 4 by the template 'for every input the law returns true; each argument reads behind the call as it read before'; 0 by the template 'total and deterministic' (their statements: YtcfalmdfohphoaaDoorTotals.lean).
  GIVEN WITH THE SEED: the statements are not yours to turn. If you find one false, say at which input.
  Laid BY PROGRAM, IN A SANDBOX (cutbox-rows.mjs): the forced cells as the released guide's own fill.sh prints them over the translation 764000e308f9d522… (all of the seat's roots in one cut). By AI agents, Wed Nov 11 2026. No macro, syntax, notation, axiom, sorry.
-/
import Derived.Test.YtcfalmdfohphoaaDoorChecked
import GoSem.Claim
import GoSem.ClaimJoined
import GoSem.ClaimMapViews
import Derived.JoinedTies
import Derived.KernelRfl
namespace Go.Proofs.YtcfalmdfohphoaaDoor
/- THE CELL 'sum', in the pinned program and in every row, IS THE sha256 OF THE DUMP (.gsa) THAT YtcfalmdfohphoaaDoorProg.lean LOADS. Nothing in Lean hashes anything: it is a label: what it is worth is what the hold of that sum in a sandbox is worth. -/
noncomputable def Tryd.pinned : Pinned := { name := "ytcfalmdfohphoaadoor", sum := "764000e308f9d522b0d767af578b64dcea3e00b17098c46e39c11423c7916174", checked := Tryd.checked }
namespace Rows
def none {H : Type} : Left H := { results := [], args := [] }

/- WHAT THE LISTED PACKAGE-LEVEL VARIABLES READ AS WHEN THE CALL BEGINS. Each datum BY PROGRAM (the guide's laid-datum.mjs) off the statement by which the dump's own 'gosem.cut.vars' lays the variable. In a bare row this is a premise. The card (YtcfalmdfohphoaaDoorCards.lean) ties it to the program's text. -/
def laid_mercator_api_ErrBound {H : Type} : DataW H := .iface "*errors.errorString" (.ptr (.agg [.lit (.string [109, 101, 114, 99, 97, 116, 111, 114, 58, 32, 98, 111, 117, 110, 100])]))
def laid_mercator_api_ErrShape {H : Type} : DataW H := .iface "*errors.errorString" (.ptr (.agg [.lit (.string [109, 101, 114, 99, 97, 116, 111, 114, 58, 32, 115, 104, 97, 112, 101])]))
def laid_mercator_api_ErrOrder {H : Type} : DataW H := .iface "*errors.errorString" (.ptr (.agg [.lit (.string [109, 101, 114, 99, 97, 116, 111, 114, 58, 32, 111, 114, 100, 101, 114])]))
def laid_errors_errorType {H : Type} : DataW H := .iface "internal/reflectlite.rtype" (.agg [.ptr (.lit (.string [101, 114, 114, 111, 114]))])
def laid_mercator_api_ErrText {H : Type} : DataW H := .iface "*errors.errorString" (.ptr (.agg [.lit (.string [109, 101, 114, 99, 97, 116, 111, 114, 58, 32, 116, 101, 120, 116])]))
def laid_mercator_api_ErrRange {H : Type} : DataW H := .iface "*errors.errorString" (.ptr (.agg [.lit (.string [109, 101, 114, 99, 97, 116, 111, 114, 58, 32, 114, 97, 110, 103, 101])]))
def laid_mercator_api_ErrName {H : Type} : DataW H := .iface "*errors.errorString" (.ptr (.agg [.lit (.string [109, 101, 114, 99, 97, 116, 111, 114, 58, 32, 110, 97, 109, 101])]))
def laid_mercator_api_ErrNone {H : Type} : DataW H := .iface "*errors.errorString" (.ptr (.agg [.lit (.string [109, 101, 114, 99, 97, 116, 111, 114, 58, 32, 110, 111, 110, 101])]))
def laid_mercator_api_ErrFile {H : Type} : DataW H := .iface "*errors.errorString" (.ptr (.agg [.lit (.string [109, 101, 114, 99, 97, 116, 111, 114, 58, 32, 102, 105, 108, 101])]))

/-- 'mercatorlaw5.ShapeEuler': WHATEVER THE INPUT: true; the input reads as it did. -/
def shapeEulerSpec : ChangeSpec := { name := "shapeEuler", fn := fun _ => fun
  | [d] => { results := [.lit (.bool true)], args := [d] }
  | _ => none }
def shapeEulerRow : OpenClaim := { program := "ytcfalmdfohphoaadoor", sum := "764000e308f9d522b0d767af578b64dcea3e00b17098c46e39c11423c7916174", func := "mercator/mercatorlaw5.ShapeEuler", spec := "shapeEuler", unfollowed := true, recurses := true, named := ["mercator/api.ErrBound", "mercator/api.ErrShape", "mercator/api.ErrOrder"], plainKeys := false, apart := false, laid := [("mercator/api.ErrBound", laid_mercator_api_ErrBound), ("mercator/api.ErrShape", laid_mercator_api_ErrShape), ("mercator/api.ErrOrder", laid_mercator_api_ErrOrder)] }
def ShapeEulerSaid : Prop := shapeEulerRow.holds Tryd.pinned (OpenSpec.ofChange shapeEulerSpec)

/-- ITS FALSE NEIGHBOUR: 'it returns false'. Refute it at one input. -/
def shapeEulerWrong : ChangeSpec := { name := "shapeEuler", fn := fun _ => fun
  | [d] => { results := [.lit (.bool false)], args := [d] }
  | _ => none }
def ShapeEulerWrongFalsely : Prop := shapeEulerRow.holds Tryd.pinned (OpenSpec.ofChange shapeEulerWrong)

/-- 'mercatorlaw5.ShapeKeeps': WHATEVER THE INPUT: true; the input reads as it did. -/
def shapeKeepsSpec : ChangeSpec := { name := "shapeKeeps", fn := fun _ => fun
  | [d1, d2] => { results := [.lit (.bool true)], args := [d1, d2] }
  | _ => none }
def shapeKeepsRow : OpenClaim := { program := "ytcfalmdfohphoaadoor", sum := "764000e308f9d522b0d767af578b64dcea3e00b17098c46e39c11423c7916174", func := "mercator/mercatorlaw5.ShapeKeeps", spec := "shapeKeeps", unfollowed := true, recurses := true, named := ["mercator/api.ErrBound", "mercator/api.ErrShape", "mercator/api.ErrOrder"], plainKeys := false, apart := false, laid := [("mercator/api.ErrBound", laid_mercator_api_ErrBound), ("mercator/api.ErrShape", laid_mercator_api_ErrShape), ("mercator/api.ErrOrder", laid_mercator_api_ErrOrder)] }
def ShapeKeepsSaid : Prop := shapeKeepsRow.holds Tryd.pinned (OpenSpec.ofChange shapeKeepsSpec)

/-- ITS FALSE NEIGHBOUR: 'it returns false'. Refute it at one input. -/
def shapeKeepsWrong : ChangeSpec := { name := "shapeKeeps", fn := fun _ => fun
  | [d1, d2] => { results := [.lit (.bool false)], args := [d1, d2] }
  | _ => none }
def ShapeKeepsWrongFalsely : Prop := shapeKeepsRow.holds Tryd.pinned (OpenSpec.ofChange shapeKeepsWrong)

/-- 'mercatorlaw5.ShapeFaces': WHATEVER THE INPUT: true; the input reads as it did. -/
def shapeFacesSpec : ChangeSpec := { name := "shapeFaces", fn := fun _ => fun
  | [d] => { results := [.lit (.bool true)], args := [d] }
  | _ => none }
def shapeFacesRow : OpenClaim := { program := "ytcfalmdfohphoaadoor", sum := "764000e308f9d522b0d767af578b64dcea3e00b17098c46e39c11423c7916174", func := "mercator/mercatorlaw5.ShapeFaces", spec := "shapeFaces", inPlace := ["internal/reflectlite.ValueOf", "(internal/reflectlite.Value).Type", "(internal/reflectlite.Value).IsNil", "internal/reflectlite.TypeOf", "(internal/reflectlite.Value).Elem", "(internal/reflectlite.Value).Set"], unfollowed := true, recurses := true, named := ["mercator/api.ErrBound", "mercator/api.ErrShape", "mercator/api.ErrOrder", "mercator/api.ErrText", "mercator/api.ErrRange", "mercator/api.ErrName", "mercator/api.ErrNone", "mercator/api.ErrFile", "errors.errorType"], plainKeys := false, apart := false, laid := [("errors.errorType", laid_errors_errorType), ("mercator/api.ErrText", laid_mercator_api_ErrText), ("mercator/api.ErrBound", laid_mercator_api_ErrBound), ("mercator/api.ErrShape", laid_mercator_api_ErrShape), ("mercator/api.ErrRange", laid_mercator_api_ErrRange), ("mercator/api.ErrName", laid_mercator_api_ErrName), ("mercator/api.ErrNone", laid_mercator_api_ErrNone), ("mercator/api.ErrOrder", laid_mercator_api_ErrOrder), ("mercator/api.ErrFile", laid_mercator_api_ErrFile)] }
def ShapeFacesSaid : Prop := shapeFacesRow.holds Tryd.pinned (OpenSpec.ofChange shapeFacesSpec)

/-- ITS FALSE NEIGHBOUR: 'it returns false'. Refute it at one input. -/
def shapeFacesWrong : ChangeSpec := { name := "shapeFaces", fn := fun _ => fun
  | [d] => { results := [.lit (.bool false)], args := [d] }
  | _ => none }
def ShapeFacesWrongFalsely : Prop := shapeFacesRow.holds Tryd.pinned (OpenSpec.ofChange shapeFacesWrong)

/-- 'mercatorlaw5.ShapeThins': WHATEVER THE INPUT: true; the input reads as it did. -/
def shapeThinsSpec : ChangeSpec := { name := "shapeThins", fn := fun _ => fun
  | [d1, d2] => { results := [.lit (.bool true)], args := [d1, d2] }
  | _ => none }
def shapeThinsRow : OpenClaim := { program := "ytcfalmdfohphoaadoor", sum := "764000e308f9d522b0d767af578b64dcea3e00b17098c46e39c11423c7916174", func := "mercator/mercatorlaw5.ShapeThins", spec := "shapeThins", inPlace := ["internal/reflectlite.ValueOf", "(internal/reflectlite.Value).Type", "(internal/reflectlite.Value).IsNil", "internal/reflectlite.TypeOf", "(internal/reflectlite.Value).Elem", "(internal/reflectlite.Value).Set"], unfollowed := true, recurses := true, named := ["mercator/api.ErrBound", "mercator/api.ErrShape", "mercator/api.ErrOrder", "mercator/api.ErrText", "mercator/api.ErrRange", "mercator/api.ErrName", "mercator/api.ErrNone", "mercator/api.ErrFile", "errors.errorType"], plainKeys := false, apart := false, laid := [("errors.errorType", laid_errors_errorType), ("mercator/api.ErrText", laid_mercator_api_ErrText), ("mercator/api.ErrBound", laid_mercator_api_ErrBound), ("mercator/api.ErrShape", laid_mercator_api_ErrShape), ("mercator/api.ErrRange", laid_mercator_api_ErrRange), ("mercator/api.ErrName", laid_mercator_api_ErrName), ("mercator/api.ErrNone", laid_mercator_api_ErrNone), ("mercator/api.ErrOrder", laid_mercator_api_ErrOrder), ("mercator/api.ErrFile", laid_mercator_api_ErrFile)] }
def ShapeThinsSaid : Prop := shapeThinsRow.holds Tryd.pinned (OpenSpec.ofChange shapeThinsSpec)

/-- ITS FALSE NEIGHBOUR: 'it returns false'. Refute it at one input. -/
def shapeThinsWrong : ChangeSpec := { name := "shapeThins", fn := fun _ => fun
  | [d1, d2] => { results := [.lit (.bool false)], args := [d1, d2] }
  | _ => none }
def ShapeThinsWrongFalsely : Prop := shapeThinsRow.holds Tryd.pinned (OpenSpec.ofChange shapeThinsWrong)

/- THE SECOND FORM. 'bulk': how many values and letters a reading holds, each counted each time it is reached (what is shared counts as often as it is met; a slice's spare places count too). A statement '..UptoSaid' is the law's where the arguments, and the package variables that the reading takes, are together of bulk at most 1048576: NARROWER than '..Said'. Prove '..Said' where nothing that the law and all that it calls make is longer than what came in: it says more and counts as full. Else prove '..UptoSaid'. A law counts once. -/
mutual
def uptoBulk {H : Type} : DataW H → Nat
  | .lit (.string bytes) => bytes.length + 1
  | .lit _ => 1
  | .nil => 1
  | .ptr d => uptoBulk d + 1
  | .slice elems spare => uptoBulkAll elems + uptoBulkAll spare + 1
  | .agg parts => uptoBulkAll parts + 1
  | .iface _ d => uptoBulk d + 1
  | .map entries => uptoBulkEntries entries + 1
  | .held _ => 1
def uptoBulkAll {H : Type} : List (DataW H) → Nat
  | [] => 0
  | d :: r => uptoBulk d + uptoBulkAll r
def uptoBulkEntries {H : Type} : List (Lit × DataW H) → Nat
  | [] => 0
  | x :: r => uptoBulkEntry x + uptoBulkEntries r
def uptoBulkEntry {H : Type} : Lit × DataW H → Nat
  | (.string bytes, d) => bytes.length + uptoBulk d + 1
  | (_, d) => uptoBulk d + 1
 end
def uptoSmall : (H : Type) → List (DataW H) → Bool := fun _ ds => decide (uptoBulkAll ds ≤ 1048576)
def OpenSpec.upto (s : _root_.Go.ChangeSpec) : _root_.Go.OpenSpec := { _root_.Go.OpenSpec.ofChange s with cond := some uptoSmall }

/-- 'mercatorlaw5.ShapeEuler', WHERE WHAT IT READS IS OF BULK AT MOST 1048576: true; the input reads as it did. -/
def shapeEulerUptoRow : OpenClaim := { program := "ytcfalmdfohphoaadoor", sum := "764000e308f9d522b0d767af578b64dcea3e00b17098c46e39c11423c7916174", func := "mercator/mercatorlaw5.ShapeEuler", spec := "shapeEuler", unfollowed := true, recurses := true, named := ["mercator/api.ErrBound", "mercator/api.ErrShape", "mercator/api.ErrOrder"], plainKeys := false, apart := false, laid := [("mercator/api.ErrBound", laid_mercator_api_ErrBound), ("mercator/api.ErrShape", laid_mercator_api_ErrShape), ("mercator/api.ErrOrder", laid_mercator_api_ErrOrder)], narrowed := true }
def ShapeEulerUptoSaid : Prop := shapeEulerUptoRow.holds Tryd.pinned (OpenSpec.upto shapeEulerSpec)

/-- 'mercatorlaw5.ShapeKeeps', WHERE WHAT IT READS IS OF BULK AT MOST 1048576: true; the input reads as it did. -/
def shapeKeepsUptoRow : OpenClaim := { program := "ytcfalmdfohphoaadoor", sum := "764000e308f9d522b0d767af578b64dcea3e00b17098c46e39c11423c7916174", func := "mercator/mercatorlaw5.ShapeKeeps", spec := "shapeKeeps", unfollowed := true, recurses := true, named := ["mercator/api.ErrBound", "mercator/api.ErrShape", "mercator/api.ErrOrder"], plainKeys := false, apart := false, laid := [("mercator/api.ErrBound", laid_mercator_api_ErrBound), ("mercator/api.ErrShape", laid_mercator_api_ErrShape), ("mercator/api.ErrOrder", laid_mercator_api_ErrOrder)], narrowed := true }
def ShapeKeepsUptoSaid : Prop := shapeKeepsUptoRow.holds Tryd.pinned (OpenSpec.upto shapeKeepsSpec)

/-- 'mercatorlaw5.ShapeFaces', WHERE WHAT IT READS IS OF BULK AT MOST 1048576: true; the input reads as it did. -/
def shapeFacesUptoRow : OpenClaim := { program := "ytcfalmdfohphoaadoor", sum := "764000e308f9d522b0d767af578b64dcea3e00b17098c46e39c11423c7916174", func := "mercator/mercatorlaw5.ShapeFaces", spec := "shapeFaces", inPlace := ["internal/reflectlite.ValueOf", "(internal/reflectlite.Value).Type", "(internal/reflectlite.Value).IsNil", "internal/reflectlite.TypeOf", "(internal/reflectlite.Value).Elem", "(internal/reflectlite.Value).Set"], unfollowed := true, recurses := true, named := ["mercator/api.ErrBound", "mercator/api.ErrShape", "mercator/api.ErrOrder", "mercator/api.ErrText", "mercator/api.ErrRange", "mercator/api.ErrName", "mercator/api.ErrNone", "mercator/api.ErrFile", "errors.errorType"], plainKeys := false, apart := false, laid := [("errors.errorType", laid_errors_errorType), ("mercator/api.ErrText", laid_mercator_api_ErrText), ("mercator/api.ErrBound", laid_mercator_api_ErrBound), ("mercator/api.ErrShape", laid_mercator_api_ErrShape), ("mercator/api.ErrRange", laid_mercator_api_ErrRange), ("mercator/api.ErrName", laid_mercator_api_ErrName), ("mercator/api.ErrNone", laid_mercator_api_ErrNone), ("mercator/api.ErrOrder", laid_mercator_api_ErrOrder), ("mercator/api.ErrFile", laid_mercator_api_ErrFile)], narrowed := true }
def ShapeFacesUptoSaid : Prop := shapeFacesUptoRow.holds Tryd.pinned (OpenSpec.upto shapeFacesSpec)

/-- 'mercatorlaw5.ShapeThins', WHERE WHAT IT READS IS OF BULK AT MOST 1048576: true; the input reads as it did. -/
def shapeThinsUptoRow : OpenClaim := { program := "ytcfalmdfohphoaadoor", sum := "764000e308f9d522b0d767af578b64dcea3e00b17098c46e39c11423c7916174", func := "mercator/mercatorlaw5.ShapeThins", spec := "shapeThins", inPlace := ["internal/reflectlite.ValueOf", "(internal/reflectlite.Value).Type", "(internal/reflectlite.Value).IsNil", "internal/reflectlite.TypeOf", "(internal/reflectlite.Value).Elem", "(internal/reflectlite.Value).Set"], unfollowed := true, recurses := true, named := ["mercator/api.ErrBound", "mercator/api.ErrShape", "mercator/api.ErrOrder", "mercator/api.ErrText", "mercator/api.ErrRange", "mercator/api.ErrName", "mercator/api.ErrNone", "mercator/api.ErrFile", "errors.errorType"], plainKeys := false, apart := false, laid := [("errors.errorType", laid_errors_errorType), ("mercator/api.ErrText", laid_mercator_api_ErrText), ("mercator/api.ErrBound", laid_mercator_api_ErrBound), ("mercator/api.ErrShape", laid_mercator_api_ErrShape), ("mercator/api.ErrRange", laid_mercator_api_ErrRange), ("mercator/api.ErrName", laid_mercator_api_ErrName), ("mercator/api.ErrNone", laid_mercator_api_ErrNone), ("mercator/api.ErrOrder", laid_mercator_api_ErrOrder), ("mercator/api.ErrFile", laid_mercator_api_ErrFile)], narrowed := true }
def ShapeThinsUptoSaid : Prop := shapeThinsUptoRow.holds Tryd.pinned (OpenSpec.upto shapeThinsSpec)

end Rows
end Go.Proofs.YtcfalmdfohphoaaDoor
