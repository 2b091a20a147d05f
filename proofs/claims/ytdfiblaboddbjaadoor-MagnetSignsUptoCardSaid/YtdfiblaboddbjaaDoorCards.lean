/-
  DERIVED. GIVEN WITH THE SEED: THE CARDS: each row of YtdfiblaboddbjaaDoorRows.lean that lists a variable, with what it lists TIED to the program's text (the seventh form; the later family's looks); each row that meets fmt, with fmt's text TOLD by the authors' own Lean function (tested against real Go, not proved from fmt's source: count such statements apart). THE CARD IS WHAT COUNTS. Prove the row's statement (the work); the ties are given (YtdfiblaboddbjaaDoorTie.lean); close each card by the builder's one call (the guide's Derived/Test/ToyasCard.lean, 'card_holds'). Laid BY PROGRAM, IN A SANDBOX (cutbox-door.mjs). By AI agents, Wed Nov 11 2026. No macro, syntax, notation, axiom, sorry.
-/
import Derived.Test.YtdfiblaboddbjaaDoorRows
import GoSem.ClaimSeven
namespace Go.Proofs.YtdfiblaboddbjaaDoor
namespace Rows

/-- THE TIED CARD OF 'torrentlaw22.MagnetPrints'. -/
def magnetPrintsCard : Claim7 := { stood := { row := magnetPrintsRow, standIns := [], harness := (true, "8fecddb455d73ec967a816e5fb5a5151407400b3387c2918f56d5f422155a867"), looks := true }, kinds := [], alts := [], laidByText := true, laidKinds := [.data, .data, .data], laidTests := true, laidLooks := .later }
def MagnetPrintsCardSaid : Prop := Claim7.holds Tryd.pinned (.plain (OpenSpec.ofChange magnetPrintsSpec)) magnetPrintsCard

/-- THE TIED CARD OF 'torrentlaw22.MagnetChecks'. -/
def magnetChecksCard : Claim7 := { stood := { row := magnetChecksRow, standIns := [], harness := (true, "8fecddb455d73ec967a816e5fb5a5151407400b3387c2918f56d5f422155a867"), looks := true }, kinds := [], alts := [], laidByText := true, laidKinds := [.data, .data, .data], laidTests := true, laidLooks := .later }
def MagnetChecksCardSaid : Prop := Claim7.holds Tryd.pinned (.plain (OpenSpec.ofChange magnetChecksSpec)) magnetChecksCard

/-- THE TIED CARD OF 'torrentlaw22.MagnetParses'. -/
def magnetParsesCard : Claim7 := { stood := { row := magnetParsesRow, standIns := [], harness := (true, "8fecddb455d73ec967a816e5fb5a5151407400b3387c2918f56d5f422155a867"), looks := true }, kinds := [], alts := [], laidByText := true, laidKinds := [.data, .data, .data, .data, .sentinel, .sentinel, .pinned], laidTests := true, laidLooks := .later }
def MagnetParsesCardSaid : Prop := Claim7.holds Tryd.pinned (.plain (OpenSpec.ofChange magnetParsesSpec)) magnetParsesCard

/-- THE TIED CARD OF 'torrentlaw22.MagnetSigns'. -/
def magnetSignsCard : Claim7 := { stood := { row := magnetSignsRow, standIns := [], harness := (true, "8fecddb455d73ec967a816e5fb5a5151407400b3387c2918f56d5f422155a867"), looks := true }, kinds := [], alts := [], laidByText := true, laidKinds := [.data, .data, .data, .data, .sentinel, .sentinel, .pinned], laidTests := true, laidLooks := .later }
def MagnetSignsCardSaid : Prop := Claim7.holds Tryd.pinned (.plain (OpenSpec.ofChange magnetSignsSpec)) magnetSignsCard

/-- THE SECOND FORM's CARD OF 'torrentlaw22.MagnetPrints'. -/
def magnetPrintsUptoCard : Claim7 := { stood := { row := magnetPrintsUptoRow, standIns := [], harness := (true, "8fecddb455d73ec967a816e5fb5a5151407400b3387c2918f56d5f422155a867"), looks := true }, kinds := [], alts := [], laidByText := true, laidKinds := [.data, .data, .data], laidTests := true, laidLooks := .later }
def MagnetPrintsUptoCardSaid : Prop := Claim7.holds Tryd.pinned (.plain (OpenSpec.upto magnetPrintsSpec)) magnetPrintsUptoCard

/-- THE SECOND FORM's CARD OF 'torrentlaw22.MagnetChecks'. -/
def magnetChecksUptoCard : Claim7 := { stood := { row := magnetChecksUptoRow, standIns := [], harness := (true, "8fecddb455d73ec967a816e5fb5a5151407400b3387c2918f56d5f422155a867"), looks := true }, kinds := [], alts := [], laidByText := true, laidKinds := [.data, .data, .data], laidTests := true, laidLooks := .later }
def MagnetChecksUptoCardSaid : Prop := Claim7.holds Tryd.pinned (.plain (OpenSpec.upto magnetChecksSpec)) magnetChecksUptoCard

/-- THE SECOND FORM's CARD OF 'torrentlaw22.MagnetParses'. -/
def magnetParsesUptoCard : Claim7 := { stood := { row := magnetParsesUptoRow, standIns := [], harness := (true, "8fecddb455d73ec967a816e5fb5a5151407400b3387c2918f56d5f422155a867"), looks := true }, kinds := [], alts := [], laidByText := true, laidKinds := [.data, .data, .data, .data, .sentinel, .sentinel, .pinned], laidTests := true, laidLooks := .later }
def MagnetParsesUptoCardSaid : Prop := Claim7.holds Tryd.pinned (.plain (OpenSpec.upto magnetParsesSpec)) magnetParsesUptoCard

/-- THE SECOND FORM's CARD OF 'torrentlaw22.MagnetSigns'. -/
def magnetSignsUptoCard : Claim7 := { stood := { row := magnetSignsUptoRow, standIns := [], harness := (true, "8fecddb455d73ec967a816e5fb5a5151407400b3387c2918f56d5f422155a867"), looks := true }, kinds := [], alts := [], laidByText := true, laidKinds := [.data, .data, .data, .data, .sentinel, .sentinel, .pinned], laidTests := true, laidLooks := .later }
def MagnetSignsUptoCardSaid : Prop := Claim7.holds Tryd.pinned (.plain (OpenSpec.upto magnetSignsSpec)) magnetSignsUptoCard
end Rows
end Go.Proofs.YtdfiblaboddbjaaDoor
