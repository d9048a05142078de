/-
  DERIVED. GIVEN WITH THE SEED: THE CARDS: each row of YtepddjfbkjplfaaGreatDoorRows.lean that lists a variable, with what it lists TIED to the program's text (the seventh form; the later family's looks); each row that meets fmt, with fmt's text TOLD by the authors' own Lean function (tested against real Go, not proved from fmt's source: count such statements apart). THE CARD IS WHAT COUNTS. Prove the row's statement (the work); the ties are given (YtepddjfbkjplfaaGreatDoorTie.lean); close each card by the builder's one call (the guide's Derived/Test/ToyasCard.lean, 'card_holds'). Laid BY PROGRAM, IN A SANDBOX (cutbox-door.mjs). By AI agents, Wed Nov 11 2026. No macro, syntax, notation, axiom, sorry.
-/
import Derived.Test.YtepddjfbkjplfaaGreatDoorRows
import GoSem.ClaimSeven
namespace Go.Proofs.YtepddjfbkjplfaaGreatDoor
namespace Rows

/-- THE TIED CARD OF 'merelaw1.RingTells'. -/
def ringTellsCard : Claim7 := { stood := { row := ringTellsRow, standIns := [], harness := (true, "d576db3377255b826c65bb89789d9fbc8e88a57ea9ed584b022dfd5d54f45200"), looks := true }, kinds := [], alts := [], laidByText := true, laidKinds := [.data, .data, .data, .handle], laidTests := true, laidLooks := .later }
def RingTellsCardSaid : Prop := Claim7.holds Tryz.pinned (.plain (OpenSpec.ofChange ringTellsSpec)) ringTellsCard

/-- THE SECOND FORM's CARD OF 'merelaw1.RingTells'. -/
def ringTellsUptoCard : Claim7 := { stood := { row := ringTellsUptoRow, standIns := [], harness := (true, "d576db3377255b826c65bb89789d9fbc8e88a57ea9ed584b022dfd5d54f45200"), looks := true }, kinds := [], alts := [], laidByText := true, laidKinds := [.data, .data, .data, .handle], laidTests := true, laidLooks := .later }
def RingTellsUptoCardSaid : Prop := Claim7.holds Tryz.pinned (.plain (OpenSpec.upto ringTellsSpec)) ringTellsUptoCard
end Rows
end Go.Proofs.YtepddjfbkjplfaaGreatDoor
