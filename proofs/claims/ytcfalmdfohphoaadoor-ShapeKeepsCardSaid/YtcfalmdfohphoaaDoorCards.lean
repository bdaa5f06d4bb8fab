/-
  DERIVED. GIVEN WITH THE SEED: THE CARDS: each row of YtcfalmdfohphoaaDoorRows.lean that lists a variable, with what it lists TIED to the program's text (the seventh form; the later family's looks); each row that meets fmt, with fmt's text TOLD by the authors' own Lean function (tested against real Go, not proved from fmt's source: count such statements apart). THE CARD IS WHAT COUNTS. Prove the row's statement (the work); the ties are given (YtcfalmdfohphoaaDoorTie.lean); close each card by the builder's one call (the guide's Derived/Test/ToyasCard.lean, 'card_holds'). Laid BY PROGRAM, IN A SANDBOX (cutbox-door.mjs). By AI agents, Wed Nov 11 2026. No macro, syntax, notation, axiom, sorry.
-/
import Derived.Test.YtcfalmdfohphoaaDoorRows
import GoSem.ClaimSeven
namespace Go.Proofs.YtcfalmdfohphoaaDoor
namespace Rows

/-- THE TIED CARD OF 'mercatorlaw5.ShapeEuler'. -/
def shapeEulerCard : Claim7 := { stood := { row := shapeEulerRow, standIns := [], harness := (true, "23caa00f1aea8a9207bdee5ce69086419719e306f5c717a9aa8809e8ab7f96e5"), looks := true }, kinds := [], alts := [], laidByText := true, laidKinds := [.sentinel, .sentinel, .sentinel], laidTests := true, laidLooks := .later }
def ShapeEulerCardSaid : Prop := Claim7.holds Tryd.pinned (.plain (OpenSpec.ofChange shapeEulerSpec)) shapeEulerCard

/-- THE TIED CARD OF 'mercatorlaw5.ShapeKeeps'. -/
def shapeKeepsCard : Claim7 := { stood := { row := shapeKeepsRow, standIns := [], harness := (true, "23caa00f1aea8a9207bdee5ce69086419719e306f5c717a9aa8809e8ab7f96e5"), looks := true }, kinds := [], alts := [], laidByText := true, laidKinds := [.sentinel, .sentinel, .sentinel], laidTests := true, laidLooks := .later }
def ShapeKeepsCardSaid : Prop := Claim7.holds Tryd.pinned (.plain (OpenSpec.ofChange shapeKeepsSpec)) shapeKeepsCard

/-- THE TIED CARD OF 'mercatorlaw5.ShapeFaces'. -/
def shapeFacesCard : Claim7 := { stood := { row := shapeFacesRow, standIns := [], harness := (true, "23caa00f1aea8a9207bdee5ce69086419719e306f5c717a9aa8809e8ab7f96e5"), looks := true }, kinds := [], alts := [], laidByText := true, laidKinds := [.handle, .sentinel, .sentinel, .sentinel, .sentinel, .sentinel, .sentinel, .sentinel, .sentinel], laidTests := true, laidLooks := .later }
def ShapeFacesCardSaid : Prop := Claim7.holds Tryd.pinned (.plain (OpenSpec.ofChange shapeFacesSpec)) shapeFacesCard

/-- THE TIED CARD OF 'mercatorlaw5.ShapeThins'. -/
def shapeThinsCard : Claim7 := { stood := { row := shapeThinsRow, standIns := [], harness := (true, "23caa00f1aea8a9207bdee5ce69086419719e306f5c717a9aa8809e8ab7f96e5"), looks := true }, kinds := [], alts := [], laidByText := true, laidKinds := [.handle, .sentinel, .sentinel, .sentinel, .sentinel, .sentinel, .sentinel, .sentinel, .sentinel], laidTests := true, laidLooks := .later }
def ShapeThinsCardSaid : Prop := Claim7.holds Tryd.pinned (.plain (OpenSpec.ofChange shapeThinsSpec)) shapeThinsCard

/-- THE SECOND FORM's CARD OF 'mercatorlaw5.ShapeEuler'. -/
def shapeEulerUptoCard : Claim7 := { stood := { row := shapeEulerUptoRow, standIns := [], harness := (true, "23caa00f1aea8a9207bdee5ce69086419719e306f5c717a9aa8809e8ab7f96e5"), looks := true }, kinds := [], alts := [], laidByText := true, laidKinds := [.sentinel, .sentinel, .sentinel], laidTests := true, laidLooks := .later }
def ShapeEulerUptoCardSaid : Prop := Claim7.holds Tryd.pinned (.plain (OpenSpec.upto shapeEulerSpec)) shapeEulerUptoCard

/-- THE SECOND FORM's CARD OF 'mercatorlaw5.ShapeKeeps'. -/
def shapeKeepsUptoCard : Claim7 := { stood := { row := shapeKeepsUptoRow, standIns := [], harness := (true, "23caa00f1aea8a9207bdee5ce69086419719e306f5c717a9aa8809e8ab7f96e5"), looks := true }, kinds := [], alts := [], laidByText := true, laidKinds := [.sentinel, .sentinel, .sentinel], laidTests := true, laidLooks := .later }
def ShapeKeepsUptoCardSaid : Prop := Claim7.holds Tryd.pinned (.plain (OpenSpec.upto shapeKeepsSpec)) shapeKeepsUptoCard

/-- THE SECOND FORM's CARD OF 'mercatorlaw5.ShapeFaces'. -/
def shapeFacesUptoCard : Claim7 := { stood := { row := shapeFacesUptoRow, standIns := [], harness := (true, "23caa00f1aea8a9207bdee5ce69086419719e306f5c717a9aa8809e8ab7f96e5"), looks := true }, kinds := [], alts := [], laidByText := true, laidKinds := [.handle, .sentinel, .sentinel, .sentinel, .sentinel, .sentinel, .sentinel, .sentinel, .sentinel], laidTests := true, laidLooks := .later }
def ShapeFacesUptoCardSaid : Prop := Claim7.holds Tryd.pinned (.plain (OpenSpec.upto shapeFacesSpec)) shapeFacesUptoCard

/-- THE SECOND FORM's CARD OF 'mercatorlaw5.ShapeThins'. -/
def shapeThinsUptoCard : Claim7 := { stood := { row := shapeThinsUptoRow, standIns := [], harness := (true, "23caa00f1aea8a9207bdee5ce69086419719e306f5c717a9aa8809e8ab7f96e5"), looks := true }, kinds := [], alts := [], laidByText := true, laidKinds := [.handle, .sentinel, .sentinel, .sentinel, .sentinel, .sentinel, .sentinel, .sentinel, .sentinel], laidTests := true, laidLooks := .later }
def ShapeThinsUptoCardSaid : Prop := Claim7.holds Tryd.pinned (.plain (OpenSpec.upto shapeThinsSpec)) shapeThinsUptoCard
end Rows
end Go.Proofs.YtcfalmdfohphoaaDoor
