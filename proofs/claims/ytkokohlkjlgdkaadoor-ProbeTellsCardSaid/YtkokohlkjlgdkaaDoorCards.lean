/-
  DERIVED. GIVEN WITH THE SEED: THE CARDS: each row of YtkokohlkjlgdkaaDoorRows.lean that lists a variable, with what it lists TIED to the program's text (the seventh form; the later family's looks); each row that meets fmt, with fmt's text TOLD by the authors' own Lean function (tested against real Go, not proved from fmt's source: count such statements apart). THE CARD IS WHAT COUNTS. Prove the row's statement (the work); the ties are given (YtkokohlkjlgdkaaDoorTie.lean); close each card by the builder's one call (the guide's Derived/Test/ToyasCard.lean, 'card_holds'). Laid BY PROGRAM, IN A SANDBOX (cutbox-door.mjs). By AI agents, Wed Nov 11 2026. No macro, syntax, notation, axiom, sorry.
-/
import Derived.Test.YtkokohlkjlgdkaaDoorRows
import GoSem.ClaimSeven
namespace Go.Proofs.YtkokohlkjlgdkaaDoor
namespace Rows

/-- THE TIED CARD OF 'merelaw4.ProbeNext'. -/
def probeNextCard : Claim7 := { stood := { row := probeNextRow, standIns := [], harness := (true, "8c903c8373bfdb9e6d0174a96055a61a12f20c91a0ea03fb1ada53d997954a68"), looks := true }, kinds := [], alts := [], laidByText := true, laidKinds := [.handle], laidTests := true, laidLooks := .later }
def ProbeNextCardSaid : Prop := Claim7.holds Tryd.pinned (.plain (OpenSpec.ofChange probeNextSpec)) probeNextCard

/-- THE TIED CARD OF 'merelaw2.ProbeTells'. -/
def probeTellsCard : Claim7 := { stood := { row := probeTellsRow, standIns := [], harness := (true, "8c903c8373bfdb9e6d0174a96055a61a12f20c91a0ea03fb1ada53d997954a68"), looks := true }, kinds := [], alts := [], laidByText := true, laidKinds := [.handle], laidTests := true, laidLooks := .later }
def ProbeTellsCardSaid : Prop := Claim7.holds Tryd.pinned (.plain (OpenSpec.ofChange probeTellsSpec)) probeTellsCard

/-- THE TIED CARD OF 'merelaw2.ProbeAll'. -/
def probeAllCard : Claim7 := { stood := { row := probeAllRow, standIns := [], harness := (true, "8c903c8373bfdb9e6d0174a96055a61a12f20c91a0ea03fb1ada53d997954a68"), looks := true }, kinds := [], alts := [], laidByText := true, laidKinds := [.handle], laidTests := true, laidLooks := .later }
def ProbeAllCardSaid : Prop := Claim7.holds Tryd.pinned (.plain (OpenSpec.ofChange probeAllSpec)) probeAllCard

/-- THE TIED CARD OF 'merelaw2.HintPlays'. -/
def hintPlaysCard : Claim7 := { stood := { row := hintPlaysRow, standIns := [], harness := (true, "8c903c8373bfdb9e6d0174a96055a61a12f20c91a0ea03fb1ada53d997954a68"), looks := true }, kinds := [], alts := [], laidByText := true, laidKinds := [.handle], laidTests := true, laidLooks := .later }
def HintPlaysCardSaid : Prop := Claim7.holds Tryd.pinned (.plain (OpenSpec.ofChange hintPlaysSpec)) hintPlaysCard

/-- THE TIED CARD OF 'merelaw4.MailFull'. -/
def mailFullCard : Claim7 := { stood := { row := mailFullRow, standIns := [], harness := (true, "8c903c8373bfdb9e6d0174a96055a61a12f20c91a0ea03fb1ada53d997954a68"), looks := true }, kinds := [], alts := [], laidByText := true, laidKinds := [.handle], laidTests := true, laidLooks := .later }
def MailFullCardSaid : Prop := Claim7.holds Tryd.pinned (.plain (OpenSpec.ofChange mailFullSpec)) mailFullCard

/-- THE TIED CARD OF 'merelaw2.MailPlays'. -/
def mailPlaysCard : Claim7 := { stood := { row := mailPlaysRow, standIns := [], harness := (true, "8c903c8373bfdb9e6d0174a96055a61a12f20c91a0ea03fb1ada53d997954a68"), looks := true }, kinds := [], alts := [], laidByText := true, laidKinds := [.handle], laidTests := true, laidLooks := .later }
def MailPlaysCardSaid : Prop := Claim7.holds Tryd.pinned (.plain (OpenSpec.ofChange mailPlaysSpec)) mailPlaysCard

/-- THE TIED CARD OF 'merelaw2.GossipTells'. -/
def gossipTellsCard : Claim7 := { stood := { row := gossipTellsRow, standIns := [], harness := (true, "8c903c8373bfdb9e6d0174a96055a61a12f20c91a0ea03fb1ada53d997954a68"), looks := true }, kinds := [], alts := [], laidByText := true, laidKinds := [.handle], laidTests := true, laidLooks := .later }
def GossipTellsCardSaid : Prop := Claim7.holds Tryd.pinned (.plain (OpenSpec.ofChange gossipTellsSpec)) gossipTellsCard

/-- THE SECOND FORM's CARD OF 'merelaw4.ProbeNext'. -/
def probeNextUptoCard : Claim7 := { stood := { row := probeNextUptoRow, standIns := [], harness := (true, "8c903c8373bfdb9e6d0174a96055a61a12f20c91a0ea03fb1ada53d997954a68"), looks := true }, kinds := [], alts := [], laidByText := true, laidKinds := [.handle], laidTests := true, laidLooks := .later }
def ProbeNextUptoCardSaid : Prop := Claim7.holds Tryd.pinned (.plain (OpenSpec.upto probeNextSpec)) probeNextUptoCard

/-- THE SECOND FORM's CARD OF 'merelaw2.ProbeTells'. -/
def probeTellsUptoCard : Claim7 := { stood := { row := probeTellsUptoRow, standIns := [], harness := (true, "8c903c8373bfdb9e6d0174a96055a61a12f20c91a0ea03fb1ada53d997954a68"), looks := true }, kinds := [], alts := [], laidByText := true, laidKinds := [.handle], laidTests := true, laidLooks := .later }
def ProbeTellsUptoCardSaid : Prop := Claim7.holds Tryd.pinned (.plain (OpenSpec.upto probeTellsSpec)) probeTellsUptoCard

/-- THE SECOND FORM's CARD OF 'merelaw2.ProbeAll'. -/
def probeAllUptoCard : Claim7 := { stood := { row := probeAllUptoRow, standIns := [], harness := (true, "8c903c8373bfdb9e6d0174a96055a61a12f20c91a0ea03fb1ada53d997954a68"), looks := true }, kinds := [], alts := [], laidByText := true, laidKinds := [.handle], laidTests := true, laidLooks := .later }
def ProbeAllUptoCardSaid : Prop := Claim7.holds Tryd.pinned (.plain (OpenSpec.upto probeAllSpec)) probeAllUptoCard

/-- THE SECOND FORM's CARD OF 'merelaw2.HintPlays'. -/
def hintPlaysUptoCard : Claim7 := { stood := { row := hintPlaysUptoRow, standIns := [], harness := (true, "8c903c8373bfdb9e6d0174a96055a61a12f20c91a0ea03fb1ada53d997954a68"), looks := true }, kinds := [], alts := [], laidByText := true, laidKinds := [.handle], laidTests := true, laidLooks := .later }
def HintPlaysUptoCardSaid : Prop := Claim7.holds Tryd.pinned (.plain (OpenSpec.upto hintPlaysSpec)) hintPlaysUptoCard

/-- THE SECOND FORM's CARD OF 'merelaw4.MailFull'. -/
def mailFullUptoCard : Claim7 := { stood := { row := mailFullUptoRow, standIns := [], harness := (true, "8c903c8373bfdb9e6d0174a96055a61a12f20c91a0ea03fb1ada53d997954a68"), looks := true }, kinds := [], alts := [], laidByText := true, laidKinds := [.handle], laidTests := true, laidLooks := .later }
def MailFullUptoCardSaid : Prop := Claim7.holds Tryd.pinned (.plain (OpenSpec.upto mailFullSpec)) mailFullUptoCard

/-- THE SECOND FORM's CARD OF 'merelaw2.MailPlays'. -/
def mailPlaysUptoCard : Claim7 := { stood := { row := mailPlaysUptoRow, standIns := [], harness := (true, "8c903c8373bfdb9e6d0174a96055a61a12f20c91a0ea03fb1ada53d997954a68"), looks := true }, kinds := [], alts := [], laidByText := true, laidKinds := [.handle], laidTests := true, laidLooks := .later }
def MailPlaysUptoCardSaid : Prop := Claim7.holds Tryd.pinned (.plain (OpenSpec.upto mailPlaysSpec)) mailPlaysUptoCard

/-- THE SECOND FORM's CARD OF 'merelaw2.GossipTells'. -/
def gossipTellsUptoCard : Claim7 := { stood := { row := gossipTellsUptoRow, standIns := [], harness := (true, "8c903c8373bfdb9e6d0174a96055a61a12f20c91a0ea03fb1ada53d997954a68"), looks := true }, kinds := [], alts := [], laidByText := true, laidKinds := [.handle], laidTests := true, laidLooks := .later }
def GossipTellsUptoCardSaid : Prop := Claim7.holds Tryd.pinned (.plain (OpenSpec.upto gossipTellsSpec)) gossipTellsUptoCard
end Rows
end Go.Proofs.YtkokohlkjlgdkaaDoor
