/-
  DERIVED. GIVEN WITH THE SEED: THE CARDS: each row of YtiflieijbmaocaaDoorRows.lean that lists a variable, with what it lists TIED to the program's text (the seventh form; the later family's looks); each row that meets fmt, with fmt's text TOLD by the authors' own Lean function (tested against real Go, not proved from fmt's source: count such statements apart). THE CARD IS WHAT COUNTS. Prove the row's statement (the work); the ties are given (YtiflieijbmaocaaDoorTie.lean); close each card by the builder's one call (the guide's Derived/Test/ToyasCard.lean, 'card_holds'). Laid BY PROGRAM, IN A SANDBOX (cutbox-door.mjs). By AI agents, Wed Nov 11 2026. No macro, syntax, notation, axiom, sorry.
-/
import Derived.Test.YtiflieijbmaocaaDoorRows
import GoSem.ClaimSeven
namespace Go.Proofs.YtiflieijbmaocaaDoor
namespace Rows

/-- THE TIED CARD OF 'mercatorlaw5.DeskPlays'. -/
def deskPlaysCard : Claim7 := { stood := { row := deskPlaysRow, standIns := [], harness := (true, "0b77add1c1b93e57d96dd9853abf68044746bcea1445f44073bcb65261dd1821"), looks := true }, kinds := [], alts := [], laidByText := true, laidKinds := [.handle, .sentinel, .sentinel, .sentinel, .sentinel, .sentinel, .sentinel, .sentinel, .sentinel], laidTests := true, laidLooks := .later }
def DeskPlaysCardSaid : Prop := Claim7.holds Tryd.pinned (.plain (OpenSpec.ofChange deskPlaysSpec)) deskPlaysCard

/-- THE TIED CARD OF 'mercatorlaw5.DeskLogs'. -/
def deskLogsCard : Claim7 := { stood := { row := deskLogsRow, standIns := [], harness := (true, "0b77add1c1b93e57d96dd9853abf68044746bcea1445f44073bcb65261dd1821"), looks := true }, kinds := [], alts := [], laidByText := true, laidKinds := [.handle, .sentinel, .sentinel, .sentinel, .sentinel, .sentinel, .sentinel, .sentinel, .sentinel], laidTests := true, laidLooks := .later }
def DeskLogsCardSaid : Prop := Claim7.holds Tryd.pinned (.plain (OpenSpec.ofChange deskLogsSpec)) deskLogsCard

/-- THE TIED CARD OF 'mercatorlaw5.DeskMerges'. -/
def deskMergesCard : Claim7 := { stood := { row := deskMergesRow, standIns := [], harness := (true, "0b77add1c1b93e57d96dd9853abf68044746bcea1445f44073bcb65261dd1821"), looks := true }, kinds := [], alts := [], laidByText := true, laidKinds := [.handle, .sentinel, .sentinel, .sentinel, .sentinel, .sentinel, .sentinel, .sentinel, .sentinel], laidTests := true, laidLooks := .later }
def DeskMergesCardSaid : Prop := Claim7.holds Tryd.pinned (.plain (OpenSpec.ofChange deskMergesSpec)) deskMergesCard

/-- THE SECOND FORM's CARD OF 'mercatorlaw5.DeskPlays'. -/
def deskPlaysUptoCard : Claim7 := { stood := { row := deskPlaysUptoRow, standIns := [], harness := (true, "0b77add1c1b93e57d96dd9853abf68044746bcea1445f44073bcb65261dd1821"), looks := true }, kinds := [], alts := [], laidByText := true, laidKinds := [.handle, .sentinel, .sentinel, .sentinel, .sentinel, .sentinel, .sentinel, .sentinel, .sentinel], laidTests := true, laidLooks := .later }
def DeskPlaysUptoCardSaid : Prop := Claim7.holds Tryd.pinned (.plain (OpenSpec.upto deskPlaysSpec)) deskPlaysUptoCard

/-- THE SECOND FORM's CARD OF 'mercatorlaw5.DeskLogs'. -/
def deskLogsUptoCard : Claim7 := { stood := { row := deskLogsUptoRow, standIns := [], harness := (true, "0b77add1c1b93e57d96dd9853abf68044746bcea1445f44073bcb65261dd1821"), looks := true }, kinds := [], alts := [], laidByText := true, laidKinds := [.handle, .sentinel, .sentinel, .sentinel, .sentinel, .sentinel, .sentinel, .sentinel, .sentinel], laidTests := true, laidLooks := .later }
def DeskLogsUptoCardSaid : Prop := Claim7.holds Tryd.pinned (.plain (OpenSpec.upto deskLogsSpec)) deskLogsUptoCard

/-- THE SECOND FORM's CARD OF 'mercatorlaw5.DeskMerges'. -/
def deskMergesUptoCard : Claim7 := { stood := { row := deskMergesUptoRow, standIns := [], harness := (true, "0b77add1c1b93e57d96dd9853abf68044746bcea1445f44073bcb65261dd1821"), looks := true }, kinds := [], alts := [], laidByText := true, laidKinds := [.handle, .sentinel, .sentinel, .sentinel, .sentinel, .sentinel, .sentinel, .sentinel, .sentinel], laidTests := true, laidLooks := .later }
def DeskMergesUptoCardSaid : Prop := Claim7.holds Tryd.pinned (.plain (OpenSpec.upto deskMergesSpec)) deskMergesUptoCard
end Rows
end Go.Proofs.YtiflieijbmaocaaDoor
