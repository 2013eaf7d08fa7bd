/-
  DERIVED. GIVEN WITH THE SEED: THE CARDS: each row of YthcjjjpcjjondaaGreatDoorRows.lean that lists a variable, with what it lists TIED to the program's text (the seventh form; the later family's looks); each row that meets fmt, with fmt's text TOLD by the authors' own Lean function (tested against real Go, not proved from fmt's source: count such statements apart). THE CARD IS WHAT COUNTS. Prove the row's statement (the work); the ties are given (YthcjjjpcjjondaaGreatDoorTie.lean); close each card by the builder's one call (the guide's Derived/Test/ToyasCard.lean, 'card_holds'). Laid BY PROGRAM, IN A SANDBOX (cutbox-door.mjs). By AI agents, Wed Nov 11 2026. No macro, syntax, notation, axiom, sorry.
-/
import Derived.Test.YthcjjjpcjjondaaGreatDoorRows
import GoSem.ClaimSeven
namespace Go.Proofs.YthcjjjpcjjondaaGreatDoor
namespace Rows

/-- THE TIED CARD OF 'coffeehousetop.TopStarts'. -/
def topStartsCard : Claim7 := { stood := { row := topStartsRow, standIns := [], harness := (true, "83f50fffd53e0b0907e80bc06f2c1287b74f0832cddc7414d0818bddef24e98f"), looks := true }, kinds := [], alts := [], laidByText := true, laidKinds := [.data, .data, .pinned], laidTests := true, laidLooks := .later }
def TopStartsCardSaid : Prop := Claim7.holds Tryz.pinned (.plain (OpenSpec.ofChange topStartsSpec)) topStartsCard

/-- THE TIED CARD OF 'coffeehousetop.TopBetter'. -/
def topBetterCard : Claim7 := { stood := { row := topBetterRow, standIns := [], harness := (true, "83f50fffd53e0b0907e80bc06f2c1287b74f0832cddc7414d0818bddef24e98f"), looks := true }, kinds := [], alts := [], laidByText := true, laidKinds := [.data, .data, .pinned], laidTests := true, laidLooks := .later }
def TopBetterCardSaid : Prop := Claim7.holds Tryz.pinned (.plain (OpenSpec.ofChange topBetterSpec)) topBetterCard

/-- THE TIED CARD OF 'coffeehouselaw4.DeskLines'. -/
def deskLinesCard : Claim7 := { stood := { row := deskLinesRow, standIns := [], harness := (true, "83f50fffd53e0b0907e80bc06f2c1287b74f0832cddc7414d0818bddef24e98f"), looks := true }, kinds := [], alts := [], laidByText := true, laidKinds := [.data, .data, .data, .data, .sentinel, .sentinel, .data, .pinned], laidTests := true, laidLooks := .later }
def DeskLinesCardSaid : Prop := Claim7.holds Tryz.pinned (.plain (OpenSpec.ofChange deskLinesSpec)) deskLinesCard

/-- THE TIED CARD OF 'coffeehouselaw4.DeskRuns'. -/
def deskRunsCard : Claim7 := { stood := { row := deskRunsRow, standIns := [], harness := (true, "83f50fffd53e0b0907e80bc06f2c1287b74f0832cddc7414d0818bddef24e98f"), looks := true }, kinds := [], alts := [], laidByText := true, laidKinds := [.data, .data, .data, .data, .sentinel, .sentinel, .data, .pinned], laidTests := true, laidLooks := .later }
def DeskRunsCardSaid : Prop := Claim7.holds Tryz.pinned (.plain (OpenSpec.ofChange deskRunsSpec)) deskRunsCard

/-- THE SECOND FORM's CARD OF 'coffeehousetop.TopStarts'. -/
def topStartsUptoCard : Claim7 := { stood := { row := topStartsUptoRow, standIns := [], harness := (true, "83f50fffd53e0b0907e80bc06f2c1287b74f0832cddc7414d0818bddef24e98f"), looks := true }, kinds := [], alts := [], laidByText := true, laidKinds := [.data, .data, .pinned], laidTests := true, laidLooks := .later }
def TopStartsUptoCardSaid : Prop := Claim7.holds Tryz.pinned (.plain (OpenSpec.upto topStartsSpec)) topStartsUptoCard

/-- THE SECOND FORM's CARD OF 'coffeehousetop.TopBetter'. -/
def topBetterUptoCard : Claim7 := { stood := { row := topBetterUptoRow, standIns := [], harness := (true, "83f50fffd53e0b0907e80bc06f2c1287b74f0832cddc7414d0818bddef24e98f"), looks := true }, kinds := [], alts := [], laidByText := true, laidKinds := [.data, .data, .pinned], laidTests := true, laidLooks := .later }
def TopBetterUptoCardSaid : Prop := Claim7.holds Tryz.pinned (.plain (OpenSpec.upto topBetterSpec)) topBetterUptoCard

/-- THE SECOND FORM's CARD OF 'coffeehouselaw4.DeskLines'. -/
def deskLinesUptoCard : Claim7 := { stood := { row := deskLinesUptoRow, standIns := [], harness := (true, "83f50fffd53e0b0907e80bc06f2c1287b74f0832cddc7414d0818bddef24e98f"), looks := true }, kinds := [], alts := [], laidByText := true, laidKinds := [.data, .data, .data, .data, .sentinel, .sentinel, .data, .pinned], laidTests := true, laidLooks := .later }
def DeskLinesUptoCardSaid : Prop := Claim7.holds Tryz.pinned (.plain (OpenSpec.upto deskLinesSpec)) deskLinesUptoCard

/-- THE SECOND FORM's CARD OF 'coffeehouselaw4.DeskRuns'. -/
def deskRunsUptoCard : Claim7 := { stood := { row := deskRunsUptoRow, standIns := [], harness := (true, "83f50fffd53e0b0907e80bc06f2c1287b74f0832cddc7414d0818bddef24e98f"), looks := true }, kinds := [], alts := [], laidByText := true, laidKinds := [.data, .data, .data, .data, .sentinel, .sentinel, .data, .pinned], laidTests := true, laidLooks := .later }
def DeskRunsUptoCardSaid : Prop := Claim7.holds Tryz.pinned (.plain (OpenSpec.upto deskRunsSpec)) deskRunsUptoCard
end Rows
end Go.Proofs.YthcjjjpcjjondaaGreatDoor
