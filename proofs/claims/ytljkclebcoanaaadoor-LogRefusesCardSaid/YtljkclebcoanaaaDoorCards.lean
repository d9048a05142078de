/-
  DERIVED. GIVEN WITH THE SEED: THE CARDS: each row of YtljkclebcoanaaaDoorRows.lean that lists a variable, with what it lists TIED to the program's text (the seventh form; the later family's looks); each row that meets fmt, with fmt's text TOLD by the authors' own Lean function (tested against real Go, not proved from fmt's source: count such statements apart). THE CARD IS WHAT COUNTS. Prove the row's statement (the work); the ties are given (YtljkclebcoanaaaDoorTie.lean); close each card by the builder's one call (the guide's Derived/Test/ToyasCard.lean, 'card_holds'). Laid BY PROGRAM, IN A SANDBOX (cutbox-door.mjs). By AI agents, Wed Nov 11 2026. No macro, syntax, notation, axiom, sorry.
-/
import Derived.Test.YtljkclebcoanaaaDoorRows
import GoSem.ClaimSeven
namespace Go.Proofs.YtljkclebcoanaaaDoor
namespace Rows

/-- THE TIED CARD OF 'merelaw4.LogRefuses'. -/
def logRefusesCard : Claim7 := { stood := { row := logRefusesRow, standIns := [], harness := (true, "f09988e82e9181e548c34a178e18647b36358cd205cb59dbfc432d1264fd3dd1"), looks := true }, kinds := [], alts := [], laidByText := true, laidKinds := [.data, .data, .data, .handle, .sentinel, .sentinel, .listed, .data], laidTests := true, laidLooks := .later }
def LogRefusesCardSaid : Prop := Claim7.holds Tryd.pinned (.plain (OpenSpec.ofChange logRefusesSpec)) logRefusesCard

/-- THE SECOND FORM's CARD OF 'merelaw4.LogRefuses'. -/
def logRefusesUptoCard : Claim7 := { stood := { row := logRefusesUptoRow, standIns := [], harness := (true, "f09988e82e9181e548c34a178e18647b36358cd205cb59dbfc432d1264fd3dd1"), looks := true }, kinds := [], alts := [], laidByText := true, laidKinds := [.data, .data, .data, .handle, .sentinel, .sentinel, .listed, .data], laidTests := true, laidLooks := .later }
def LogRefusesUptoCardSaid : Prop := Claim7.holds Tryd.pinned (.plain (OpenSpec.upto logRefusesSpec)) logRefusesUptoCard
end Rows
end Go.Proofs.YtljkclebcoanaaaDoor
