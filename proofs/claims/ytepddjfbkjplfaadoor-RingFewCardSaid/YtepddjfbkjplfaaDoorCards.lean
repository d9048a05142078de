/-
  DERIVED. GIVEN WITH THE SEED: THE CARDS: each row of YtepddjfbkjplfaaDoorRows.lean that lists a variable, with what it lists TIED to the program's text (the seventh form; the later family's looks); each row that meets fmt, with fmt's text TOLD by the authors' own Lean function (tested against real Go, not proved from fmt's source: count such statements apart). THE CARD IS WHAT COUNTS. Prove the row's statement (the work); the ties are given (YtepddjfbkjplfaaDoorTie.lean); close each card by the builder's one call (the guide's Derived/Test/ToyasCard.lean, 'card_holds'). Laid BY PROGRAM, IN A SANDBOX (cutbox-door.mjs). By AI agents, Wed Nov 11 2026. No macro, syntax, notation, axiom, sorry.
-/
import Derived.Test.YtepddjfbkjplfaaDoorRows
import GoSem.ClaimSeven
namespace Go.Proofs.YtepddjfbkjplfaaDoor
namespace Rows

/-- THE TIED CARD OF 'merelaw1.RingFew'. -/
def ringFewCard : Claim7 := { stood := { row := ringFewRow, standIns := [], harness := (true, "1c06f127e80c333dc1ba397590e61ad1158eb4ebae3950f72cdcb56448bf2f58"), looks := true }, kinds := [], alts := [], laidByText := true, laidKinds := [.data, .data, .data], laidTests := true, laidLooks := .later }
def RingFewCardSaid : Prop := Claim7.holds Tryd.pinned (.plain (OpenSpec.ofChange ringFewSpec)) ringFewCard

/-- THE TIED CARD OF 'merelaw4.RingLone'. -/
def ringLoneCard : Claim7 := { stood := { row := ringLoneRow, standIns := [], harness := (true, "1c06f127e80c333dc1ba397590e61ad1158eb4ebae3950f72cdcb56448bf2f58"), looks := true }, kinds := [], alts := [], laidByText := true, laidKinds := [.data, .data, .data, .handle], laidTests := true, laidLooks := .later }
def RingLoneCardSaid : Prop := Claim7.holds Tryd.pinned (.plain (OpenSpec.ofChange ringLoneSpec)) ringLoneCard

/-- THE SECOND FORM's CARD OF 'merelaw1.RingFew'. -/
def ringFewUptoCard : Claim7 := { stood := { row := ringFewUptoRow, standIns := [], harness := (true, "1c06f127e80c333dc1ba397590e61ad1158eb4ebae3950f72cdcb56448bf2f58"), looks := true }, kinds := [], alts := [], laidByText := true, laidKinds := [.data, .data, .data], laidTests := true, laidLooks := .later }
def RingFewUptoCardSaid : Prop := Claim7.holds Tryd.pinned (.plain (OpenSpec.upto ringFewSpec)) ringFewUptoCard

/-- THE SECOND FORM's CARD OF 'merelaw4.RingLone'. -/
def ringLoneUptoCard : Claim7 := { stood := { row := ringLoneUptoRow, standIns := [], harness := (true, "1c06f127e80c333dc1ba397590e61ad1158eb4ebae3950f72cdcb56448bf2f58"), looks := true }, kinds := [], alts := [], laidByText := true, laidKinds := [.data, .data, .data, .handle], laidTests := true, laidLooks := .later }
def RingLoneUptoCardSaid : Prop := Claim7.holds Tryd.pinned (.plain (OpenSpec.upto ringLoneSpec)) ringLoneUptoCard
end Rows
end Go.Proofs.YtepddjfbkjplfaaDoor
