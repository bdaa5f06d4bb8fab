/-
  DERIVED. GIVEN WITH THE SEED: THE CARDS: each row of YtdbgkhcknaafoaaDoorRows.lean that lists a variable, with what it lists TIED to the program's text (the seventh form; the later family's looks); each row that meets fmt, with fmt's text TOLD by the authors' own Lean function (tested against real Go, not proved from fmt's source: count such statements apart). THE CARD IS WHAT COUNTS. Prove the row's statement (the work); the ties are given (YtdbgkhcknaafoaaDoorTie.lean); close each card by the builder's one call (the guide's Derived/Test/ToyasCard.lean, 'card_holds'). Laid BY PROGRAM, IN A SANDBOX (cutbox-door.mjs). By AI agents, Wed Nov 11 2026. No macro, syntax, notation, axiom, sorry.
-/
import Derived.Test.YtdbgkhcknaafoaaDoorRows
import GoSem.ClaimSeven
namespace Go.Proofs.YtdbgkhcknaafoaaDoor
namespace Rows

/-- THE TIED CARD OF 'mercatorlaw5.ShapeTurned'. -/
def shapeTurnedCard : Claim7 := { stood := { row := shapeTurnedRow, standIns := [], harness := (true, "ee7620bb3eaf53d34e3e1ac1b96749d01c7b7123d319f65c7d4b17ac3916c11a"), looks := true }, kinds := [], alts := [], laidByText := true, laidKinds := [.sentinel, .sentinel], laidTests := true, laidLooks := .later }
def ShapeTurnedCardSaid : Prop := Claim7.holds Tryd.pinned (.plain (OpenSpec.ofChange shapeTurnedSpec)) shapeTurnedCard

/-- THE TIED CARD OF 'mercatorlaw5.ShapeRings'. -/
def shapeRingsCard : Claim7 := { stood := { row := shapeRingsRow, standIns := [], harness := (true, "ee7620bb3eaf53d34e3e1ac1b96749d01c7b7123d319f65c7d4b17ac3916c11a"), looks := true }, kinds := [], alts := [], laidByText := true, laidKinds := [.handle, .sentinel, .sentinel, .sentinel, .sentinel, .sentinel, .sentinel, .sentinel, .sentinel], laidTests := true, laidLooks := .later }
def ShapeRingsCardSaid : Prop := Claim7.holds Tryd.pinned (.plain (OpenSpec.ofChange shapeRingsSpec)) shapeRingsCard

/-- THE SECOND FORM's CARD OF 'mercatorlaw5.ShapeTurned'. -/
def shapeTurnedUptoCard : Claim7 := { stood := { row := shapeTurnedUptoRow, standIns := [], harness := (true, "ee7620bb3eaf53d34e3e1ac1b96749d01c7b7123d319f65c7d4b17ac3916c11a"), looks := true }, kinds := [], alts := [], laidByText := true, laidKinds := [.sentinel, .sentinel], laidTests := true, laidLooks := .later }
def ShapeTurnedUptoCardSaid : Prop := Claim7.holds Tryd.pinned (.plain (OpenSpec.upto shapeTurnedSpec)) shapeTurnedUptoCard

/-- THE SECOND FORM's CARD OF 'mercatorlaw5.ShapeRings'. -/
def shapeRingsUptoCard : Claim7 := { stood := { row := shapeRingsUptoRow, standIns := [], harness := (true, "ee7620bb3eaf53d34e3e1ac1b96749d01c7b7123d319f65c7d4b17ac3916c11a"), looks := true }, kinds := [], alts := [], laidByText := true, laidKinds := [.handle, .sentinel, .sentinel, .sentinel, .sentinel, .sentinel, .sentinel, .sentinel, .sentinel], laidTests := true, laidLooks := .later }
def ShapeRingsUptoCardSaid : Prop := Claim7.holds Tryd.pinned (.plain (OpenSpec.upto shapeRingsSpec)) shapeRingsUptoCard
end Rows
end Go.Proofs.YtdbgkhcknaafoaaDoor
