/-
  DERIVED. GIVEN WITH THE SEED: THE CARDS: each row of YtmgiecoeeidgoaaGreatDoorRows.lean that lists a variable, with what it lists TIED to the program's text (the seventh form; the later family's looks); each row that meets fmt, with fmt's text TOLD by the authors' own Lean function (tested against real Go, not proved from fmt's source: count such statements apart). THE CARD IS WHAT COUNTS. Prove the row's statement (the work); the ties are given (YtmgiecoeeidgoaaGreatDoorTie.lean); close each card by the builder's one call (the guide's Derived/Test/ToyasCard.lean, 'card_holds'). Laid BY PROGRAM, IN A SANDBOX (cutbox-door.mjs). By AI agents, Wed Nov 11 2026. No macro, syntax, notation, axiom, sorry.
-/
import Derived.Test.YtmgiecoeeidgoaaGreatDoorRows
import GoSem.ClaimSeven
namespace Go.Proofs.YtmgiecoeeidgoaaGreatDoor
namespace Rows

/-- THE TIED CARD OF 'meretop.TopOwners'. -/
def topOwnersCard : Claim7 := { stood := { row := topOwnersRow, standIns := [], harness := (true, "669b3b4cf325a8dd9358e3dc5f2b47248592c6130719a084d05607d6863c5d8e"), looks := true }, kinds := [], alts := [], laidByText := true, laidKinds := [.data, .data, .data, .sentinel, .sentinel, .listed, .data], laidTests := true, laidLooks := .later }
def TopOwnersCardSaid : Prop := Claim7.holds Tryz.pinned (.plain (OpenSpec.ofChange topOwnersSpec)) topOwnersCard

/-- THE SECOND FORM's CARD OF 'meretop.TopOwners'. -/
def topOwnersUptoCard : Claim7 := { stood := { row := topOwnersUptoRow, standIns := [], harness := (true, "669b3b4cf325a8dd9358e3dc5f2b47248592c6130719a084d05607d6863c5d8e"), looks := true }, kinds := [], alts := [], laidByText := true, laidKinds := [.data, .data, .data, .sentinel, .sentinel, .listed, .data], laidTests := true, laidLooks := .later }
def TopOwnersUptoCardSaid : Prop := Claim7.holds Tryz.pinned (.plain (OpenSpec.upto topOwnersSpec)) topOwnersUptoCard
end Rows
end Go.Proofs.YtmgiecoeeidgoaaGreatDoor
