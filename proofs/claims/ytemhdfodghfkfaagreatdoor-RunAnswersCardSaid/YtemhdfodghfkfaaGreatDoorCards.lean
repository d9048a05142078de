/-
  DERIVED. GIVEN WITH THE SEED: THE CARDS: each row of YtemhdfodghfkfaaGreatDoorRows.lean that lists a variable, with what it lists TIED to the program's text (the seventh form; the later family's looks); each row that meets fmt, with fmt's text TOLD by the authors' own Lean function (tested against real Go, not proved from fmt's source: count such statements apart). THE CARD IS WHAT COUNTS. Prove the row's statement (the work); the ties are given (YtemhdfodghfkfaaGreatDoorTie.lean); close each card by the builder's one call (the guide's Derived/Test/ToyasCard.lean, 'card_holds'). Laid BY PROGRAM, IN A SANDBOX (cutbox-door.mjs). By AI agents, Wed Nov 11 2026. No macro, syntax, notation, axiom, sorry.
-/
import Derived.Test.YtemhdfodghfkfaaGreatDoorRows
import GoSem.ClaimSeven
namespace Go.Proofs.YtemhdfodghfkfaaGreatDoor
namespace Rows

/-- THE TIED CARD OF 'merelaw3.RunAnswers'. -/
def runAnswersCard : Claim7 := { stood := { row := runAnswersRow, standIns := [], harness := (true, "8813eefdb94600c17412bec07e0d3e7f711fb9e30a0493dbd15128308420ac98"), looks := true }, kinds := [], alts := [], laidByText := true, laidKinds := [.data, .data, .data, .data, .handle, .sentinel, .sentinel, .wider, .pinned], laidTests := true, laidLooks := .later }
def RunAnswersCardSaid : Prop := Claim7.holds Tryz.pinned (.plain (OpenSpec.ofChange runAnswersSpec)) runAnswersCard

/-- THE TIED CARD OF 'merelaw3.RunBegins'. -/
def runBeginsCard : Claim7 := { stood := { row := runBeginsRow, standIns := [], harness := (true, "8813eefdb94600c17412bec07e0d3e7f711fb9e30a0493dbd15128308420ac98"), looks := true }, kinds := [], alts := [], laidByText := true, laidKinds := [.data, .data, .data, .data, .handle, .sentinel, .sentinel, .wider, .pinned], laidTests := true, laidLooks := .later }
def RunBeginsCardSaid : Prop := Claim7.holds Tryz.pinned (.plain (OpenSpec.ofChange runBeginsSpec)) runBeginsCard

/-- THE TIED CARD OF 'merelaw3.RunSwaps'. -/
def runSwapsCard : Claim7 := { stood := { row := runSwapsRow, standIns := [], harness := (true, "8813eefdb94600c17412bec07e0d3e7f711fb9e30a0493dbd15128308420ac98"), looks := true }, kinds := [], alts := [], laidByText := true, laidKinds := [.data, .data, .data, .data, .handle, .sentinel, .sentinel, .wider, .pinned], laidTests := true, laidLooks := .later }
def RunSwapsCardSaid : Prop := Claim7.holds Tryz.pinned (.plain (OpenSpec.ofChange runSwapsSpec)) runSwapsCard

/-- THE SECOND FORM's CARD OF 'merelaw3.RunAnswers'. -/
def runAnswersUptoCard : Claim7 := { stood := { row := runAnswersUptoRow, standIns := [], harness := (true, "8813eefdb94600c17412bec07e0d3e7f711fb9e30a0493dbd15128308420ac98"), looks := true }, kinds := [], alts := [], laidByText := true, laidKinds := [.data, .data, .data, .data, .handle, .sentinel, .sentinel, .wider, .pinned], laidTests := true, laidLooks := .later }
def RunAnswersUptoCardSaid : Prop := Claim7.holds Tryz.pinned (.plain (OpenSpec.upto runAnswersSpec)) runAnswersUptoCard

/-- THE SECOND FORM's CARD OF 'merelaw3.RunBegins'. -/
def runBeginsUptoCard : Claim7 := { stood := { row := runBeginsUptoRow, standIns := [], harness := (true, "8813eefdb94600c17412bec07e0d3e7f711fb9e30a0493dbd15128308420ac98"), looks := true }, kinds := [], alts := [], laidByText := true, laidKinds := [.data, .data, .data, .data, .handle, .sentinel, .sentinel, .wider, .pinned], laidTests := true, laidLooks := .later }
def RunBeginsUptoCardSaid : Prop := Claim7.holds Tryz.pinned (.plain (OpenSpec.upto runBeginsSpec)) runBeginsUptoCard

/-- THE SECOND FORM's CARD OF 'merelaw3.RunSwaps'. -/
def runSwapsUptoCard : Claim7 := { stood := { row := runSwapsUptoRow, standIns := [], harness := (true, "8813eefdb94600c17412bec07e0d3e7f711fb9e30a0493dbd15128308420ac98"), looks := true }, kinds := [], alts := [], laidByText := true, laidKinds := [.data, .data, .data, .data, .handle, .sentinel, .sentinel, .wider, .pinned], laidTests := true, laidLooks := .later }
def RunSwapsUptoCardSaid : Prop := Claim7.holds Tryz.pinned (.plain (OpenSpec.upto runSwapsSpec)) runSwapsUptoCard
end Rows
end Go.Proofs.YtemhdfodghfkfaaGreatDoor
