/-
  DERIVED. GIVEN WITH THE SEED: THE CARDS: each row of YtepkknjncpbahaaDoorRows.lean that lists a variable, with what it lists TIED to the program's text (the seventh form; the later family's looks); each row that meets fmt, with fmt's text TOLD by the authors' own Lean function (tested against real Go, not proved from fmt's source: count such statements apart). THE CARD IS WHAT COUNTS. Prove the row's statement (the work); the ties are given (YtepkknjncpbahaaDoorTie.lean); close each card by the builder's one call (the guide's Derived/Test/ToyasCard.lean, 'card_holds'). Laid BY PROGRAM, IN A SANDBOX (cutbox-door.mjs). By AI agents, Wed Nov 11 2026. No macro, syntax, notation, axiom, sorry.
-/
import Derived.Test.YtepkknjncpbahaaDoorRows
import GoSem.ClaimSeven
namespace Go.Proofs.YtepkknjncpbahaaDoor
namespace Rows

/-- THE TIED CARD OF 'mercatorlaw4.DrainAlways'. -/
def drainAlwaysCard : Claim7 := { stood := { row := drainAlwaysRow, standIns := [], harness := (true, "2c6a993363151e49d24002e89860878e7966fcc3637518dfcc0da44657d94591"), looks := true }, kinds := [], alts := [], laidByText := true, laidKinds := [.sentinel, .sentinel, .sentinel], laidTests := true, laidLooks := .later }
def DrainAlwaysCardSaid : Prop := Claim7.holds Tryd.pinned (.plain (OpenSpec.ofChange drainAlwaysSpec)) drainAlwaysCard

/-- THE TIED CARD OF 'mercatorlaw4.DrainFloods'. -/
def drainFloodsCard : Claim7 := { stood := { row := drainFloodsRow, standIns := [], harness := (true, "2c6a993363151e49d24002e89860878e7966fcc3637518dfcc0da44657d94591"), looks := true }, kinds := [], alts := [], laidByText := true, laidKinds := [.handle, .sentinel, .sentinel, .sentinel, .sentinel, .sentinel, .sentinel, .sentinel, .sentinel], laidTests := true, laidLooks := .later }
def DrainFloodsCardSaid : Prop := Claim7.holds Tryd.pinned (.plain (OpenSpec.ofChange drainFloodsSpec)) drainFloodsCard

/-- THE TIED CARD OF 'mercatorlaw4.BasinParts'. -/
def basinPartsCard : Claim7 := { stood := { row := basinPartsRow, standIns := [], harness := (true, "2c6a993363151e49d24002e89860878e7966fcc3637518dfcc0da44657d94591"), looks := true }, kinds := [], alts := [], laidByText := true, laidKinds := [.handle, .sentinel, .sentinel, .sentinel, .sentinel, .sentinel, .sentinel, .sentinel, .sentinel], laidTests := true, laidLooks := .later }
def BasinPartsCardSaid : Prop := Claim7.holds Tryd.pinned (.plain (OpenSpec.ofChange basinPartsSpec)) basinPartsCard

/-- THE TIED CARD OF 'mercatorlaw4.DrainGathers'. -/
def drainGathersCard : Claim7 := { stood := { row := drainGathersRow, standIns := [], harness := (true, "2c6a993363151e49d24002e89860878e7966fcc3637518dfcc0da44657d94591"), looks := true }, kinds := [], alts := [], laidByText := true, laidKinds := [.handle, .sentinel, .sentinel, .sentinel, .sentinel, .sentinel, .sentinel, .sentinel, .sentinel], laidTests := true, laidLooks := .later }
def DrainGathersCardSaid : Prop := Claim7.holds Tryd.pinned (.plain (OpenSpec.ofChange drainGathersSpec)) drainGathersCard

/-- THE TIED CARD OF 'mercatorlaw4.DrainStreams'. -/
def drainStreamsCard : Claim7 := { stood := { row := drainStreamsRow, standIns := [], harness := (true, "2c6a993363151e49d24002e89860878e7966fcc3637518dfcc0da44657d94591"), looks := true }, kinds := [], alts := [], laidByText := true, laidKinds := [.handle, .sentinel, .sentinel, .sentinel, .sentinel, .sentinel, .sentinel, .sentinel, .sentinel], laidTests := true, laidLooks := .later }
def DrainStreamsCardSaid : Prop := Claim7.holds Tryd.pinned (.plain (OpenSpec.ofChange drainStreamsSpec)) drainStreamsCard

/-- THE TIED CARD OF 'mercatorlaw4.BasinLakes'. -/
def basinLakesCard : Claim7 := { stood := { row := basinLakesRow, standIns := [], harness := (true, "2c6a993363151e49d24002e89860878e7966fcc3637518dfcc0da44657d94591"), looks := true }, kinds := [], alts := [], laidByText := true, laidKinds := [.handle, .sentinel, .sentinel, .sentinel, .sentinel, .sentinel, .sentinel, .sentinel, .sentinel], laidTests := true, laidLooks := .later }
def BasinLakesCardSaid : Prop := Claim7.holds Tryd.pinned (.plain (OpenSpec.ofChange basinLakesSpec)) basinLakesCard

/-- THE SECOND FORM's CARD OF 'mercatorlaw4.DrainAlways'. -/
def drainAlwaysUptoCard : Claim7 := { stood := { row := drainAlwaysUptoRow, standIns := [], harness := (true, "2c6a993363151e49d24002e89860878e7966fcc3637518dfcc0da44657d94591"), looks := true }, kinds := [], alts := [], laidByText := true, laidKinds := [.sentinel, .sentinel, .sentinel], laidTests := true, laidLooks := .later }
def DrainAlwaysUptoCardSaid : Prop := Claim7.holds Tryd.pinned (.plain (OpenSpec.upto drainAlwaysSpec)) drainAlwaysUptoCard

/-- THE SECOND FORM's CARD OF 'mercatorlaw4.DrainFloods'. -/
def drainFloodsUptoCard : Claim7 := { stood := { row := drainFloodsUptoRow, standIns := [], harness := (true, "2c6a993363151e49d24002e89860878e7966fcc3637518dfcc0da44657d94591"), looks := true }, kinds := [], alts := [], laidByText := true, laidKinds := [.handle, .sentinel, .sentinel, .sentinel, .sentinel, .sentinel, .sentinel, .sentinel, .sentinel], laidTests := true, laidLooks := .later }
def DrainFloodsUptoCardSaid : Prop := Claim7.holds Tryd.pinned (.plain (OpenSpec.upto drainFloodsSpec)) drainFloodsUptoCard

/-- THE SECOND FORM's CARD OF 'mercatorlaw4.BasinParts'. -/
def basinPartsUptoCard : Claim7 := { stood := { row := basinPartsUptoRow, standIns := [], harness := (true, "2c6a993363151e49d24002e89860878e7966fcc3637518dfcc0da44657d94591"), looks := true }, kinds := [], alts := [], laidByText := true, laidKinds := [.handle, .sentinel, .sentinel, .sentinel, .sentinel, .sentinel, .sentinel, .sentinel, .sentinel], laidTests := true, laidLooks := .later }
def BasinPartsUptoCardSaid : Prop := Claim7.holds Tryd.pinned (.plain (OpenSpec.upto basinPartsSpec)) basinPartsUptoCard

/-- THE SECOND FORM's CARD OF 'mercatorlaw4.DrainGathers'. -/
def drainGathersUptoCard : Claim7 := { stood := { row := drainGathersUptoRow, standIns := [], harness := (true, "2c6a993363151e49d24002e89860878e7966fcc3637518dfcc0da44657d94591"), looks := true }, kinds := [], alts := [], laidByText := true, laidKinds := [.handle, .sentinel, .sentinel, .sentinel, .sentinel, .sentinel, .sentinel, .sentinel, .sentinel], laidTests := true, laidLooks := .later }
def DrainGathersUptoCardSaid : Prop := Claim7.holds Tryd.pinned (.plain (OpenSpec.upto drainGathersSpec)) drainGathersUptoCard

/-- THE SECOND FORM's CARD OF 'mercatorlaw4.DrainStreams'. -/
def drainStreamsUptoCard : Claim7 := { stood := { row := drainStreamsUptoRow, standIns := [], harness := (true, "2c6a993363151e49d24002e89860878e7966fcc3637518dfcc0da44657d94591"), looks := true }, kinds := [], alts := [], laidByText := true, laidKinds := [.handle, .sentinel, .sentinel, .sentinel, .sentinel, .sentinel, .sentinel, .sentinel, .sentinel], laidTests := true, laidLooks := .later }
def DrainStreamsUptoCardSaid : Prop := Claim7.holds Tryd.pinned (.plain (OpenSpec.upto drainStreamsSpec)) drainStreamsUptoCard

/-- THE SECOND FORM's CARD OF 'mercatorlaw4.BasinLakes'. -/
def basinLakesUptoCard : Claim7 := { stood := { row := basinLakesUptoRow, standIns := [], harness := (true, "2c6a993363151e49d24002e89860878e7966fcc3637518dfcc0da44657d94591"), looks := true }, kinds := [], alts := [], laidByText := true, laidKinds := [.handle, .sentinel, .sentinel, .sentinel, .sentinel, .sentinel, .sentinel, .sentinel, .sentinel], laidTests := true, laidLooks := .later }
def BasinLakesUptoCardSaid : Prop := Claim7.holds Tryd.pinned (.plain (OpenSpec.upto basinLakesSpec)) basinLakesUptoCard
end Rows
end Go.Proofs.YtepkknjncpbahaaDoor
