/-
  DERIVED. GIVEN WITH THE SEED: THE CARDS: each row of YtgamocljdbffpaaDoorRows.lean that lists a variable, with what it lists TIED to the program's text (the seventh form; the later family's looks); each row that meets fmt, with fmt's text TOLD by the authors' own Lean function (tested against real Go, not proved from fmt's source: count such statements apart). THE CARD IS WHAT COUNTS. Prove the row's statement (the work); the ties are given (YtgamocljdbffpaaDoorTie.lean); close each card by the builder's one call (the guide's Derived/Test/ToyasCard.lean, 'card_holds'). Laid BY PROGRAM, IN A SANDBOX (cutbox-door.mjs). By AI agents, Wed Nov 11 2026. No macro, syntax, notation, axiom, sorry.
-/
import Derived.Test.YtgamocljdbffpaaDoorRows
import GoSem.ClaimSeven
namespace Go.Proofs.YtgamocljdbffpaaDoor
namespace Rows

/-- THE TIED CARD OF 'merelaw2.MailPlays'. -/
def mailPlaysCard : Claim7 := { stood := { row := mailPlaysRow, standIns := [], harness := (true, "a7d8763f39f003d34c9bede6c2e1582e01b52cc3c2b042b63dbdfdeb2ed1eea2"), looks := true }, kinds := [], alts := [], laidByText := true, laidKinds := [.handle], laidTests := true, laidLooks := .later }
def MailPlaysCardSaid : Prop := Claim7.holds Tryd.pinned (.plain (OpenSpec.ofChange mailPlaysSpec)) mailPlaysCard

/-- THE TIED CARD OF 'merelaw2.ViewTells'. -/
def viewTellsCard : Claim7 := { stood := { row := viewTellsRow, standIns := [], harness := (true, "a7d8763f39f003d34c9bede6c2e1582e01b52cc3c2b042b63dbdfdeb2ed1eea2"), looks := true }, kinds := [], alts := [], laidByText := true, laidKinds := [.handle], laidTests := true, laidLooks := .later }
def ViewTellsCardSaid : Prop := Claim7.holds Tryd.pinned (.plain (OpenSpec.ofChange viewTellsSpec)) viewTellsCard

/-- THE TIED CARD OF 'merelaw2.RumorTells'. -/
def rumorTellsCard : Claim7 := { stood := { row := rumorTellsRow, standIns := [], harness := (true, "a7d8763f39f003d34c9bede6c2e1582e01b52cc3c2b042b63dbdfdeb2ed1eea2"), looks := true }, kinds := [], alts := [], laidByText := true, laidKinds := [.handle], laidTests := true, laidLooks := .later }
def RumorTellsCardSaid : Prop := Claim7.holds Tryd.pinned (.plain (OpenSpec.ofChange rumorTellsSpec)) rumorTellsCard

/-- THE SECOND FORM's CARD OF 'merelaw2.MailPlays'. -/
def mailPlaysUptoCard : Claim7 := { stood := { row := mailPlaysUptoRow, standIns := [], harness := (true, "a7d8763f39f003d34c9bede6c2e1582e01b52cc3c2b042b63dbdfdeb2ed1eea2"), looks := true }, kinds := [], alts := [], laidByText := true, laidKinds := [.handle], laidTests := true, laidLooks := .later }
def MailPlaysUptoCardSaid : Prop := Claim7.holds Tryd.pinned (.plain (OpenSpec.upto mailPlaysSpec)) mailPlaysUptoCard

/-- THE SECOND FORM's CARD OF 'merelaw2.ViewTells'. -/
def viewTellsUptoCard : Claim7 := { stood := { row := viewTellsUptoRow, standIns := [], harness := (true, "a7d8763f39f003d34c9bede6c2e1582e01b52cc3c2b042b63dbdfdeb2ed1eea2"), looks := true }, kinds := [], alts := [], laidByText := true, laidKinds := [.handle], laidTests := true, laidLooks := .later }
def ViewTellsUptoCardSaid : Prop := Claim7.holds Tryd.pinned (.plain (OpenSpec.upto viewTellsSpec)) viewTellsUptoCard

/-- THE SECOND FORM's CARD OF 'merelaw2.RumorTells'. -/
def rumorTellsUptoCard : Claim7 := { stood := { row := rumorTellsUptoRow, standIns := [], harness := (true, "a7d8763f39f003d34c9bede6c2e1582e01b52cc3c2b042b63dbdfdeb2ed1eea2"), looks := true }, kinds := [], alts := [], laidByText := true, laidKinds := [.handle], laidTests := true, laidLooks := .later }
def RumorTellsUptoCardSaid : Prop := Claim7.holds Tryd.pinned (.plain (OpenSpec.upto rumorTellsSpec)) rumorTellsUptoCard
end Rows
end Go.Proofs.YtgamocljdbffpaaDoor
