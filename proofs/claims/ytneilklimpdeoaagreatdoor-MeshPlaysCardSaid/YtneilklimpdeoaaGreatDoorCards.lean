/-
  DERIVED. GIVEN WITH THE SEED: THE CARDS: each row of YtneilklimpdeoaaGreatDoorRows.lean that lists a variable, with what it lists TIED to the program's text (the seventh form; the later family's looks); each row that meets fmt, with fmt's text TOLD by the authors' own Lean function (tested against real Go, not proved from fmt's source: count such statements apart). THE CARD IS WHAT COUNTS. Prove the row's statement (the work); the ties are given (YtneilklimpdeoaaGreatDoorTie.lean); close each card by the builder's one call (the guide's Derived/Test/ToyasCard.lean, 'card_holds'). Laid BY PROGRAM, IN A SANDBOX (cutbox-door.mjs). By AI agents, Wed Nov 11 2026. No macro, syntax, notation, axiom, sorry.
-/
import Derived.Test.YtneilklimpdeoaaGreatDoorRows
import GoSem.ClaimSeven
namespace Go.Proofs.YtneilklimpdeoaaGreatDoor
namespace Rows

/-- THE TIED CARD OF 'merelaw2.MeshPlays'. -/
def meshPlaysCard : Claim7 := { stood := { row := meshPlaysRow, standIns := [], harness := (true, "a53bc4b4b6f1c258c77c82c68e6a7f562d075ef53e11aa4d490e07f4ee79029d"), looks := true }, kinds := [], alts := [], laidByText := true, laidKinds := [.data, .data, .data, .handle], laidTests := true, laidLooks := .later }
def MeshPlaysCardSaid : Prop := Claim7.holds Tryz.pinned (.plain (OpenSpec.ofChange meshPlaysSpec)) meshPlaysCard

/-- THE SECOND FORM's CARD OF 'merelaw2.MeshPlays'. -/
def meshPlaysUptoCard : Claim7 := { stood := { row := meshPlaysUptoRow, standIns := [], harness := (true, "a53bc4b4b6f1c258c77c82c68e6a7f562d075ef53e11aa4d490e07f4ee79029d"), looks := true }, kinds := [], alts := [], laidByText := true, laidKinds := [.data, .data, .data, .handle], laidTests := true, laidLooks := .later }
def MeshPlaysUptoCardSaid : Prop := Claim7.holds Tryz.pinned (.plain (OpenSpec.upto meshPlaysSpec)) meshPlaysUptoCard
end Rows
end Go.Proofs.YtneilklimpdeoaaGreatDoor
