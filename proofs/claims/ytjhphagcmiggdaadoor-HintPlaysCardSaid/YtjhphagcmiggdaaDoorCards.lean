/-
  DERIVED. GIVEN WITH THE SEED: THE CARDS: each row of YtjhphagcmiggdaaDoorRows.lean that lists a variable, with what it lists TIED to the program's text (the seventh form; the later family's looks); each row that meets fmt, with fmt's text TOLD by the authors' own Lean function (tested against real Go, not proved from fmt's source: count such statements apart). THE CARD IS WHAT COUNTS. Prove the row's statement (the work); the ties are given (YtjhphagcmiggdaaDoorTie.lean); close each card by the builder's one call (the guide's Derived/Test/ToyasCard.lean, 'card_holds'). Laid BY PROGRAM, IN A SANDBOX (cutbox-door.mjs). By AI agents, Wed Nov 11 2026. No macro, syntax, notation, axiom, sorry.
-/
import Derived.Test.YtjhphagcmiggdaaDoorRows
import GoSem.ClaimSeven
namespace Go.Proofs.YtjhphagcmiggdaaDoor
namespace Rows

/-- THE TIED CARD OF 'merelaw2.HintPlays'. -/
def hintPlaysCard : Claim7 := { stood := { row := hintPlaysRow, standIns := [], harness := (true, "e5875bcbeab6aed4a7fcaaea5cce38da50fa9b41ce7a1890dc12a9b8ff5fe140"), looks := true }, kinds := [], alts := [], laidByText := true, laidKinds := [.handle], laidTests := true, laidLooks := .later }
def HintPlaysCardSaid : Prop := Claim7.holds Tryd.pinned (.plain (OpenSpec.ofChange hintPlaysSpec)) hintPlaysCard

/-- THE SECOND FORM's CARD OF 'merelaw2.HintPlays'. -/
def hintPlaysUptoCard : Claim7 := { stood := { row := hintPlaysUptoRow, standIns := [], harness := (true, "e5875bcbeab6aed4a7fcaaea5cce38da50fa9b41ce7a1890dc12a9b8ff5fe140"), looks := true }, kinds := [], alts := [], laidByText := true, laidKinds := [.handle], laidTests := true, laidLooks := .later }
def HintPlaysUptoCardSaid : Prop := Claim7.holds Tryd.pinned (.plain (OpenSpec.upto hintPlaysSpec)) hintPlaysUptoCard
end Rows
end Go.Proofs.YtjhphagcmiggdaaDoor
