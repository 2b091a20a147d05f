/-
  DERIVED. GIVEN WITH THE SEED: THE CARDS: each row of YtdfiblaboddbjaaGreatDoorRows.lean that lists a variable, with what it lists TIED to the program's text (the seventh form; the later family's looks); each row that meets fmt, with fmt's text TOLD by the authors' own Lean function (tested against real Go, not proved from fmt's source: count such statements apart). THE CARD IS WHAT COUNTS. Prove the row's statement (the work); the ties are given (YtdfiblaboddbjaaGreatDoorTie.lean); close each card by the builder's one call (the guide's Derived/Test/ToyasCard.lean, 'card_holds'). Laid BY PROGRAM, IN A SANDBOX (cutbox-door.mjs). By AI agents, Wed Nov 11 2026. No macro, syntax, notation, axiom, sorry.
-/
import Derived.Test.YtdfiblaboddbjaaGreatDoorRows
import GoSem.ClaimSeven
namespace Go.Proofs.YtdfiblaboddbjaaGreatDoor
namespace Rows

/-- THE TIED CARD OF 'torrentlaw22.MagnetTwoWay'. -/
def magnetTwoWayCard : Claim7 := { stood := { row := magnetTwoWayRow, standIns := [], harness := (true, "a356fcdf802fdf023e6d918ffe0f5188c42687338596478c8417872a0501270b"), looks := true }, kinds := [], alts := [], laidByText := true, laidKinds := [.data, .data, .data, .data, .sentinel, .sentinel, .pinned], laidTests := true, laidLooks := .later }
def MagnetTwoWayCardSaid : Prop := Claim7.holds Tryz.pinned (.plain (OpenSpec.ofChange magnetTwoWaySpec)) magnetTwoWayCard

/-- THE TIED CARD OF 'torrentlaw22.MagnetBack'. -/
def magnetBackCard : Claim7 := { stood := { row := magnetBackRow, standIns := [], harness := (true, "a356fcdf802fdf023e6d918ffe0f5188c42687338596478c8417872a0501270b"), looks := true }, kinds := [], alts := [], laidByText := true, laidKinds := [.data, .data, .data, .data, .sentinel, .sentinel, .pinned], laidTests := true, laidLooks := .later }
def MagnetBackCardSaid : Prop := Claim7.holds Tryz.pinned (.plain (OpenSpec.ofChange magnetBackSpec)) magnetBackCard

/-- THE TIED CARD OF 'torrentlaw22.MagnetOnly'. -/
def magnetOnlyCard : Claim7 := { stood := { row := magnetOnlyRow, standIns := [], harness := (true, "a356fcdf802fdf023e6d918ffe0f5188c42687338596478c8417872a0501270b"), looks := true }, kinds := [], alts := [], laidByText := true, laidKinds := [.data, .data, .data, .data, .sentinel, .sentinel, .pinned], laidTests := true, laidLooks := .later }
def MagnetOnlyCardSaid : Prop := Claim7.holds Tryz.pinned (.plain (OpenSpec.ofChange magnetOnlySpec)) magnetOnlyCard

/-- THE TIED CARD OF 'torrentlaw22.MagnetOwn'. -/
def magnetOwnCard : Claim7 := { stood := { row := magnetOwnRow, standIns := [], harness := (true, "a356fcdf802fdf023e6d918ffe0f5188c42687338596478c8417872a0501270b"), looks := true }, kinds := [], alts := [], laidByText := true, laidKinds := [.data, .data, .data, .data, .sentinel, .sentinel, .pinned], laidTests := true, laidLooks := .later }
def MagnetOwnCardSaid : Prop := Claim7.holds Tryz.pinned (.plain (OpenSpec.ofChange magnetOwnSpec)) magnetOwnCard

/-- THE SECOND FORM's CARD OF 'torrentlaw22.MagnetTwoWay'. -/
def magnetTwoWayUptoCard : Claim7 := { stood := { row := magnetTwoWayUptoRow, standIns := [], harness := (true, "a356fcdf802fdf023e6d918ffe0f5188c42687338596478c8417872a0501270b"), looks := true }, kinds := [], alts := [], laidByText := true, laidKinds := [.data, .data, .data, .data, .sentinel, .sentinel, .pinned], laidTests := true, laidLooks := .later }
def MagnetTwoWayUptoCardSaid : Prop := Claim7.holds Tryz.pinned (.plain (OpenSpec.upto magnetTwoWaySpec)) magnetTwoWayUptoCard

/-- THE SECOND FORM's CARD OF 'torrentlaw22.MagnetBack'. -/
def magnetBackUptoCard : Claim7 := { stood := { row := magnetBackUptoRow, standIns := [], harness := (true, "a356fcdf802fdf023e6d918ffe0f5188c42687338596478c8417872a0501270b"), looks := true }, kinds := [], alts := [], laidByText := true, laidKinds := [.data, .data, .data, .data, .sentinel, .sentinel, .pinned], laidTests := true, laidLooks := .later }
def MagnetBackUptoCardSaid : Prop := Claim7.holds Tryz.pinned (.plain (OpenSpec.upto magnetBackSpec)) magnetBackUptoCard

/-- THE SECOND FORM's CARD OF 'torrentlaw22.MagnetOnly'. -/
def magnetOnlyUptoCard : Claim7 := { stood := { row := magnetOnlyUptoRow, standIns := [], harness := (true, "a356fcdf802fdf023e6d918ffe0f5188c42687338596478c8417872a0501270b"), looks := true }, kinds := [], alts := [], laidByText := true, laidKinds := [.data, .data, .data, .data, .sentinel, .sentinel, .pinned], laidTests := true, laidLooks := .later }
def MagnetOnlyUptoCardSaid : Prop := Claim7.holds Tryz.pinned (.plain (OpenSpec.upto magnetOnlySpec)) magnetOnlyUptoCard

/-- THE SECOND FORM's CARD OF 'torrentlaw22.MagnetOwn'. -/
def magnetOwnUptoCard : Claim7 := { stood := { row := magnetOwnUptoRow, standIns := [], harness := (true, "a356fcdf802fdf023e6d918ffe0f5188c42687338596478c8417872a0501270b"), looks := true }, kinds := [], alts := [], laidByText := true, laidKinds := [.data, .data, .data, .data, .sentinel, .sentinel, .pinned], laidTests := true, laidLooks := .later }
def MagnetOwnUptoCardSaid : Prop := Claim7.holds Tryz.pinned (.plain (OpenSpec.upto magnetOwnSpec)) magnetOwnUptoCard
end Rows
end Go.Proofs.YtdfiblaboddbjaaGreatDoor
