/-
  DERIVED. GIVEN WITH THE SEED: THE CARDS: each row of YtljkclebcoanaaaGreatDoorRows.lean that lists a variable, with what it lists TIED to the program's text (the seventh form; the later family's looks); each row that meets fmt, with fmt's text TOLD by the authors' own Lean function (tested against real Go, not proved from fmt's source: count such statements apart). THE CARD IS WHAT COUNTS. Prove the row's statement (the work); the ties are given (YtljkclebcoanaaaGreatDoorTie.lean); close each card by the builder's one call (the guide's Derived/Test/ToyasCard.lean, 'card_holds'). Laid BY PROGRAM, IN A SANDBOX (cutbox-door.mjs). By AI agents, Wed Nov 11 2026. No macro, syntax, notation, axiom, sorry.
-/
import Derived.Test.YtljkclebcoanaaaGreatDoorRows
import GoSem.ClaimSeven
namespace Go.Proofs.YtljkclebcoanaaaGreatDoor
namespace Rows

/-- THE TIED CARD OF 'merelaw3.LogStops'. -/
def logStopsCard : Claim7 := { stood := { row := logStopsRow, standIns := [], harness := (true, "448729981ecc92505293ea1296f482a2ad9686dcf235f420387028345ff0aad1"), looks := true }, kinds := [], alts := [], laidByText := true, laidKinds := [.data, .data, .data, .handle, .sentinel, .sentinel, .listed, .data], laidTests := true, laidLooks := .later }
def LogStopsCardSaid : Prop := Claim7.holds Tryz.pinned (.plain (OpenSpec.ofChange logStopsSpec)) logStopsCard

/-- THE TIED CARD OF 'merelaw3.LogKeeps'. -/
def logKeepsCard : Claim7 := { stood := { row := logKeepsRow, standIns := [], harness := (true, "448729981ecc92505293ea1296f482a2ad9686dcf235f420387028345ff0aad1"), looks := true }, kinds := [], alts := [], laidByText := true, laidKinds := [.data, .data, .data, .handle, .sentinel, .sentinel, .listed, .data], laidTests := true, laidLooks := .later }
def LogKeepsCardSaid : Prop := Claim7.holds Tryz.pinned (.plain (OpenSpec.ofChange logKeepsSpec)) logKeepsCard

/-- THE SECOND FORM's CARD OF 'merelaw3.LogStops'. -/
def logStopsUptoCard : Claim7 := { stood := { row := logStopsUptoRow, standIns := [], harness := (true, "448729981ecc92505293ea1296f482a2ad9686dcf235f420387028345ff0aad1"), looks := true }, kinds := [], alts := [], laidByText := true, laidKinds := [.data, .data, .data, .handle, .sentinel, .sentinel, .listed, .data], laidTests := true, laidLooks := .later }
def LogStopsUptoCardSaid : Prop := Claim7.holds Tryz.pinned (.plain (OpenSpec.upto logStopsSpec)) logStopsUptoCard

/-- THE SECOND FORM's CARD OF 'merelaw3.LogKeeps'. -/
def logKeepsUptoCard : Claim7 := { stood := { row := logKeepsUptoRow, standIns := [], harness := (true, "448729981ecc92505293ea1296f482a2ad9686dcf235f420387028345ff0aad1"), looks := true }, kinds := [], alts := [], laidByText := true, laidKinds := [.data, .data, .data, .handle, .sentinel, .sentinel, .listed, .data], laidTests := true, laidLooks := .later }
def LogKeepsUptoCardSaid : Prop := Claim7.holds Tryz.pinned (.plain (OpenSpec.upto logKeepsSpec)) logKeepsUptoCard
end Rows
end Go.Proofs.YtljkclebcoanaaaGreatDoor
