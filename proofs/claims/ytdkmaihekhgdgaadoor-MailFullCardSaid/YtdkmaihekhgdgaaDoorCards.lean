/-
  DERIVED. GIVEN WITH THE SEED: THE CARDS: each row of YtdkmaihekhgdgaaDoorRows.lean that lists a variable, with what it lists TIED to the program's text (the seventh form; the later family's looks); each row that meets fmt, with fmt's text TOLD by the authors' own Lean function (tested against real Go, not proved from fmt's source: count such statements apart). THE CARD IS WHAT COUNTS. Prove the row's statement (the work); the ties are given (YtdkmaihekhgdgaaDoorTie.lean); close each card by the builder's one call (the guide's Derived/Test/ToyasCard.lean, 'card_holds'). Laid BY PROGRAM, IN A SANDBOX (cutbox-door.mjs). By AI agents, Wed Nov 11 2026. No macro, syntax, notation, axiom, sorry.
-/
import Derived.Test.YtdkmaihekhgdgaaDoorRows
import GoSem.ClaimSeven
namespace Go.Proofs.YtdkmaihekhgdgaaDoor
namespace Rows

/-- THE TIED CARD OF 'merelaw4.MailFull'. -/
def mailFullCard : Claim7 := { stood := { row := mailFullRow, standIns := [], harness := (true, "21048a4ad40f2b9cc7ed7a68e4b80545111af2691d7642f3c4560454c7f7f81a"), looks := true }, kinds := [], alts := [], laidByText := true, laidKinds := [.handle], laidTests := true, laidLooks := .later }
def MailFullCardSaid : Prop := Claim7.holds Tryd.pinned (.plain (OpenSpec.ofChange mailFullSpec)) mailFullCard

/-- THE TIED CARD OF 'merelaw2.MailPlays'. -/
def mailPlaysCard : Claim7 := { stood := { row := mailPlaysRow, standIns := [], harness := (true, "21048a4ad40f2b9cc7ed7a68e4b80545111af2691d7642f3c4560454c7f7f81a"), looks := true }, kinds := [], alts := [], laidByText := true, laidKinds := [.handle], laidTests := true, laidLooks := .later }
def MailPlaysCardSaid : Prop := Claim7.holds Tryd.pinned (.plain (OpenSpec.ofChange mailPlaysSpec)) mailPlaysCard

/-- THE SECOND FORM's CARD OF 'merelaw4.MailFull'. -/
def mailFullUptoCard : Claim7 := { stood := { row := mailFullUptoRow, standIns := [], harness := (true, "21048a4ad40f2b9cc7ed7a68e4b80545111af2691d7642f3c4560454c7f7f81a"), looks := true }, kinds := [], alts := [], laidByText := true, laidKinds := [.handle], laidTests := true, laidLooks := .later }
def MailFullUptoCardSaid : Prop := Claim7.holds Tryd.pinned (.plain (OpenSpec.upto mailFullSpec)) mailFullUptoCard

/-- THE SECOND FORM's CARD OF 'merelaw2.MailPlays'. -/
def mailPlaysUptoCard : Claim7 := { stood := { row := mailPlaysUptoRow, standIns := [], harness := (true, "21048a4ad40f2b9cc7ed7a68e4b80545111af2691d7642f3c4560454c7f7f81a"), looks := true }, kinds := [], alts := [], laidByText := true, laidKinds := [.handle], laidTests := true, laidLooks := .later }
def MailPlaysUptoCardSaid : Prop := Claim7.holds Tryd.pinned (.plain (OpenSpec.upto mailPlaysSpec)) mailPlaysUptoCard
end Rows
end Go.Proofs.YtdkmaihekhgdgaaDoor
