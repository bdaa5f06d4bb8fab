/-
  DERIVED. GIVEN WITH THE SEED: THE CARDS: each row of YtgjjooophigkoaaGreatDoorRows.lean that lists a variable, with what it lists TIED to the program's text (the seventh form; the later family's looks); each row that meets fmt, with fmt's text TOLD by the authors' own Lean function (tested against real Go, not proved from fmt's source: count such statements apart). THE CARD IS WHAT COUNTS. Prove the row's statement (the work); the ties are given (YtgjjooophigkoaaGreatDoorTie.lean); close each card by the builder's one call (the guide's Derived/Test/ToyasCard.lean, 'card_holds'). Laid BY PROGRAM, IN A SANDBOX (cutbox-door.mjs). By AI agents, Wed Nov 11 2026. No macro, syntax, notation, axiom, sorry.
-/
import Derived.Test.YtgjjooophigkoaaGreatDoorRows
import GoSem.ClaimSeven
namespace Go.Proofs.YtgjjooophigkoaaGreatDoor
namespace Rows

/-- THE TIED CARD OF 'mercatorlaw3.FieldZones'. -/
def fieldZonesCard : Claim7 := { stood := { row := fieldZonesRow, standIns := [], harness := (true, "b99f14f18e99793d76e43267b16ad103d36b9b5ca1bd6f26a5f1606db8da4d16"), looks := true }, kinds := [], alts := [], goes := true, laidByText := true, laidKinds := [.handle, .sentinel, .sentinel, .sentinel, .sentinel, .sentinel, .sentinel, .sentinel, .sentinel], laidTests := true, laidLooks := .later }
def FieldZonesCardSaid : Prop := Claim7.holds Tryz.pinned (.plain (OpenSpec.ofChange fieldZonesSpec)) fieldZonesCard

/-- THE TIED CARD OF 'mercatorlaw3.FieldTexts'. -/
def fieldTextsCard : Claim7 := { stood := { row := fieldTextsRow, standIns := [], harness := (true, "b99f14f18e99793d76e43267b16ad103d36b9b5ca1bd6f26a5f1606db8da4d16"), looks := true }, kinds := [], alts := [], goes := true, laidByText := true, laidKinds := [.data, .data, .data, .data, .handle, .sentinel, .sentinel, .sentinel, .sentinel, .sentinel, .sentinel, .sentinel, .sentinel, .sentinel, .sentinel, .pinned], laidTests := true, laidLooks := .later }
def FieldTextsCardSaid : Prop := Claim7.holds Tryz.pinned (.plain (OpenSpec.ofChange fieldTextsSpec)) fieldTextsCard

/-- THE TIED CARD OF 'mercatorlaw4.BasinPasses'. -/
def basinPassesCard : Claim7 := { stood := { row := basinPassesRow, standIns := [], harness := (true, "b99f14f18e99793d76e43267b16ad103d36b9b5ca1bd6f26a5f1606db8da4d16"), looks := true }, kinds := [], alts := [], goes := true, laidByText := true, laidKinds := [.handle, .sentinel, .sentinel, .sentinel, .sentinel, .sentinel, .sentinel, .sentinel, .sentinel], laidTests := true, laidLooks := .later }
def BasinPassesCardSaid : Prop := Claim7.holds Tryz.pinned (.plain (OpenSpec.ofChange basinPassesSpec)) basinPassesCard

/-- THE SECOND FORM's CARD OF 'mercatorlaw3.FieldZones'. -/
def fieldZonesUptoCard : Claim7 := { stood := { row := fieldZonesUptoRow, standIns := [], harness := (true, "b99f14f18e99793d76e43267b16ad103d36b9b5ca1bd6f26a5f1606db8da4d16"), looks := true }, kinds := [], alts := [], goes := true, laidByText := true, laidKinds := [.handle, .sentinel, .sentinel, .sentinel, .sentinel, .sentinel, .sentinel, .sentinel, .sentinel], laidTests := true, laidLooks := .later }
def FieldZonesUptoCardSaid : Prop := Claim7.holds Tryz.pinned (.plain (OpenSpec.upto fieldZonesSpec)) fieldZonesUptoCard

/-- THE SECOND FORM's CARD OF 'mercatorlaw3.FieldTexts'. -/
def fieldTextsUptoCard : Claim7 := { stood := { row := fieldTextsUptoRow, standIns := [], harness := (true, "b99f14f18e99793d76e43267b16ad103d36b9b5ca1bd6f26a5f1606db8da4d16"), looks := true }, kinds := [], alts := [], goes := true, laidByText := true, laidKinds := [.data, .data, .data, .data, .handle, .sentinel, .sentinel, .sentinel, .sentinel, .sentinel, .sentinel, .sentinel, .sentinel, .sentinel, .sentinel, .pinned], laidTests := true, laidLooks := .later }
def FieldTextsUptoCardSaid : Prop := Claim7.holds Tryz.pinned (.plain (OpenSpec.upto fieldTextsSpec)) fieldTextsUptoCard

/-- THE SECOND FORM's CARD OF 'mercatorlaw4.BasinPasses'. -/
def basinPassesUptoCard : Claim7 := { stood := { row := basinPassesUptoRow, standIns := [], harness := (true, "b99f14f18e99793d76e43267b16ad103d36b9b5ca1bd6f26a5f1606db8da4d16"), looks := true }, kinds := [], alts := [], goes := true, laidByText := true, laidKinds := [.handle, .sentinel, .sentinel, .sentinel, .sentinel, .sentinel, .sentinel, .sentinel, .sentinel], laidTests := true, laidLooks := .later }
def BasinPassesUptoCardSaid : Prop := Claim7.holds Tryz.pinned (.plain (OpenSpec.upto basinPassesSpec)) basinPassesUptoCard
end Rows
end Go.Proofs.YtgjjooophigkoaaGreatDoor
