/-
  DERIVED. GIVEN WITH THE SEED: THE CARDS: each row of YtidhgdipnfhoeaaDoorRows.lean that lists a variable, with what it lists TIED to the program's text (the seventh form; the later family's looks); each row that meets fmt, with fmt's text TOLD by the authors' own Lean function (tested against real Go, not proved from fmt's source: count such statements apart). THE CARD IS WHAT COUNTS. Prove the row's statement (the work); the ties are given (YtidhgdipnfhoeaaDoorTie.lean); close each card by the builder's one call (the guide's Derived/Test/ToyasCard.lean, 'card_holds'). Laid BY PROGRAM, IN A SANDBOX (cutbox-door.mjs). By AI agents, Wed Nov 11 2026. No macro, syntax, notation, axiom, sorry.
-/
import Derived.Test.YtidhgdipnfhoeaaDoorRows
import GoSem.ClaimSeven
namespace Go.Proofs.YtidhgdipnfhoeaaDoor
namespace Rows

/-- THE TIED CARD OF 'mercatorlaw3.FieldOpens'. -/
def fieldOpensCard : Claim7 := { stood := { row := fieldOpensRow, standIns := [], harness := (true, "d9ba17cb8c775913e4e79aa0abcab4e8278fdccc2206235b70534f3ffca94fc6"), looks := true }, kinds := [], alts := [], laidByText := true, laidKinds := [.sentinel, .sentinel, .sentinel], laidTests := true, laidLooks := .later }
def FieldOpensCardSaid : Prop := Claim7.holds Tryd.pinned (.plain (OpenSpec.ofChange fieldOpensSpec)) fieldOpensCard

/-- THE TIED CARD OF 'mercatorlaw3.FieldBoth'. -/
def fieldBothCard : Claim7 := { stood := { row := fieldBothRow, standIns := [], harness := (true, "d9ba17cb8c775913e4e79aa0abcab4e8278fdccc2206235b70534f3ffca94fc6"), looks := true }, kinds := [], alts := [], laidByText := true, laidKinds := [.handle, .sentinel, .sentinel, .sentinel, .sentinel, .sentinel, .sentinel, .sentinel, .sentinel], laidTests := true, laidLooks := .later }
def FieldBothCardSaid : Prop := Claim7.holds Tryd.pinned (.plain (OpenSpec.ofChange fieldBothSpec)) fieldBothCard

/-- THE TIED CARD OF 'mercatorlaw3.FieldScales'. -/
def fieldScalesCard : Claim7 := { stood := { row := fieldScalesRow, standIns := [], harness := (true, "d9ba17cb8c775913e4e79aa0abcab4e8278fdccc2206235b70534f3ffca94fc6"), looks := true }, kinds := [], alts := [], laidByText := true, laidKinds := [.handle, .sentinel, .sentinel, .sentinel, .sentinel, .sentinel, .sentinel, .sentinel, .sentinel], laidTests := true, laidLooks := .later }
def FieldScalesCardSaid : Prop := Claim7.holds Tryd.pinned (.plain (OpenSpec.ofChange fieldScalesSpec)) fieldScalesCard

/-- THE TIED CARD OF 'mercatorlaw3.FieldTiles'. -/
def fieldTilesCard : Claim7 := { stood := { row := fieldTilesRow, standIns := [], harness := (true, "d9ba17cb8c775913e4e79aa0abcab4e8278fdccc2206235b70534f3ffca94fc6"), looks := true }, kinds := [], alts := [], laidByText := true, laidKinds := [.handle, .sentinel, .sentinel, .sentinel, .sentinel, .sentinel, .sentinel, .sentinel, .sentinel], laidTests := true, laidLooks := .later }
def FieldTilesCardSaid : Prop := Claim7.holds Tryd.pinned (.plain (OpenSpec.ofChange fieldTilesSpec)) fieldTilesCard

/-- THE TIED CARD OF 'mercatorlaw3.FieldAround'. -/
def fieldAroundCard : Claim7 := { stood := { row := fieldAroundRow, standIns := [], harness := (true, "d9ba17cb8c775913e4e79aa0abcab4e8278fdccc2206235b70534f3ffca94fc6"), looks := true }, kinds := [], alts := [], laidByText := true, laidKinds := [.handle, .sentinel, .sentinel, .sentinel, .sentinel, .sentinel, .sentinel, .sentinel, .sentinel], laidTests := true, laidLooks := .later }
def FieldAroundCardSaid : Prop := Claim7.holds Tryd.pinned (.plain (OpenSpec.ofChange fieldAroundSpec)) fieldAroundCard

/-- THE SECOND FORM's CARD OF 'mercatorlaw3.FieldOpens'. -/
def fieldOpensUptoCard : Claim7 := { stood := { row := fieldOpensUptoRow, standIns := [], harness := (true, "d9ba17cb8c775913e4e79aa0abcab4e8278fdccc2206235b70534f3ffca94fc6"), looks := true }, kinds := [], alts := [], laidByText := true, laidKinds := [.sentinel, .sentinel, .sentinel], laidTests := true, laidLooks := .later }
def FieldOpensUptoCardSaid : Prop := Claim7.holds Tryd.pinned (.plain (OpenSpec.upto fieldOpensSpec)) fieldOpensUptoCard

/-- THE SECOND FORM's CARD OF 'mercatorlaw3.FieldBoth'. -/
def fieldBothUptoCard : Claim7 := { stood := { row := fieldBothUptoRow, standIns := [], harness := (true, "d9ba17cb8c775913e4e79aa0abcab4e8278fdccc2206235b70534f3ffca94fc6"), looks := true }, kinds := [], alts := [], laidByText := true, laidKinds := [.handle, .sentinel, .sentinel, .sentinel, .sentinel, .sentinel, .sentinel, .sentinel, .sentinel], laidTests := true, laidLooks := .later }
def FieldBothUptoCardSaid : Prop := Claim7.holds Tryd.pinned (.plain (OpenSpec.upto fieldBothSpec)) fieldBothUptoCard

/-- THE SECOND FORM's CARD OF 'mercatorlaw3.FieldScales'. -/
def fieldScalesUptoCard : Claim7 := { stood := { row := fieldScalesUptoRow, standIns := [], harness := (true, "d9ba17cb8c775913e4e79aa0abcab4e8278fdccc2206235b70534f3ffca94fc6"), looks := true }, kinds := [], alts := [], laidByText := true, laidKinds := [.handle, .sentinel, .sentinel, .sentinel, .sentinel, .sentinel, .sentinel, .sentinel, .sentinel], laidTests := true, laidLooks := .later }
def FieldScalesUptoCardSaid : Prop := Claim7.holds Tryd.pinned (.plain (OpenSpec.upto fieldScalesSpec)) fieldScalesUptoCard

/-- THE SECOND FORM's CARD OF 'mercatorlaw3.FieldTiles'. -/
def fieldTilesUptoCard : Claim7 := { stood := { row := fieldTilesUptoRow, standIns := [], harness := (true, "d9ba17cb8c775913e4e79aa0abcab4e8278fdccc2206235b70534f3ffca94fc6"), looks := true }, kinds := [], alts := [], laidByText := true, laidKinds := [.handle, .sentinel, .sentinel, .sentinel, .sentinel, .sentinel, .sentinel, .sentinel, .sentinel], laidTests := true, laidLooks := .later }
def FieldTilesUptoCardSaid : Prop := Claim7.holds Tryd.pinned (.plain (OpenSpec.upto fieldTilesSpec)) fieldTilesUptoCard

/-- THE SECOND FORM's CARD OF 'mercatorlaw3.FieldAround'. -/
def fieldAroundUptoCard : Claim7 := { stood := { row := fieldAroundUptoRow, standIns := [], harness := (true, "d9ba17cb8c775913e4e79aa0abcab4e8278fdccc2206235b70534f3ffca94fc6"), looks := true }, kinds := [], alts := [], laidByText := true, laidKinds := [.handle, .sentinel, .sentinel, .sentinel, .sentinel, .sentinel, .sentinel, .sentinel, .sentinel], laidTests := true, laidLooks := .later }
def FieldAroundUptoCardSaid : Prop := Claim7.holds Tryd.pinned (.plain (OpenSpec.upto fieldAroundSpec)) fieldAroundUptoCard
end Rows
end Go.Proofs.YtidhgdipnfhoeaaDoor
