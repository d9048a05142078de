/-
  DERIVED. GIVEN WITH THE SEED: THE CARDS: each row of YtjnbghpeaimmcaaDoorRows.lean that lists a variable, with what it lists TIED to the program's text (the seventh form; the later family's looks); each row that meets fmt, with fmt's text TOLD by the authors' own Lean function (tested against real Go, not proved from fmt's source: count such statements apart). THE CARD IS WHAT COUNTS. Prove the row's statement (the work); the ties are given (YtjnbghpeaimmcaaDoorTie.lean); close each card by the builder's one call (the guide's Derived/Test/ToyasCard.lean, 'card_holds'). Laid BY PROGRAM, IN A SANDBOX (cutbox-door.mjs). By AI agents, Wed Nov 11 2026. No macro, syntax, notation, axiom, sorry.
-/
import Derived.Test.YtjnbghpeaimmcaaDoorRows
import GoSem.ClaimSeven
namespace Go.Proofs.YtjnbghpeaimmcaaDoor
namespace Rows

/-- THE TIED CARD OF 'merelaw1.StorePlays'. -/
def storePlaysCard : Claim7 := { stood := { row := storePlaysRow, standIns := [], harness := (true, "71aa8eda596e0a2fcac4315666cd63794187b4a572a2b8586db15ca2fa9f1deb"), looks := true }, kinds := [], alts := [], laidByText := true, laidKinds := [.handle], laidTests := true, laidLooks := .later }
def StorePlaysCardSaid : Prop := Claim7.holds Tryd.pinned (.plain (OpenSpec.ofChange storePlaysSpec)) storePlaysCard

/-- THE TIED CARD OF 'merelaw1.StorePast'. -/
def storePastCard : Claim7 := { stood := { row := storePastRow, standIns := [], harness := (true, "71aa8eda596e0a2fcac4315666cd63794187b4a572a2b8586db15ca2fa9f1deb"), looks := true }, kinds := [], alts := [], laidByText := true, laidKinds := [.handle], laidTests := true, laidLooks := .later }
def StorePastCardSaid : Prop := Claim7.holds Tryd.pinned (.plain (OpenSpec.ofChange storePastSpec)) storePastCard

/-- THE SECOND FORM's CARD OF 'merelaw1.StorePlays'. -/
def storePlaysUptoCard : Claim7 := { stood := { row := storePlaysUptoRow, standIns := [], harness := (true, "71aa8eda596e0a2fcac4315666cd63794187b4a572a2b8586db15ca2fa9f1deb"), looks := true }, kinds := [], alts := [], laidByText := true, laidKinds := [.handle], laidTests := true, laidLooks := .later }
def StorePlaysUptoCardSaid : Prop := Claim7.holds Tryd.pinned (.plain (OpenSpec.upto storePlaysSpec)) storePlaysUptoCard

/-- THE SECOND FORM's CARD OF 'merelaw1.StorePast'. -/
def storePastUptoCard : Claim7 := { stood := { row := storePastUptoRow, standIns := [], harness := (true, "71aa8eda596e0a2fcac4315666cd63794187b4a572a2b8586db15ca2fa9f1deb"), looks := true }, kinds := [], alts := [], laidByText := true, laidKinds := [.handle], laidTests := true, laidLooks := .later }
def StorePastUptoCardSaid : Prop := Claim7.holds Tryd.pinned (.plain (OpenSpec.upto storePastSpec)) storePastUptoCard
end Rows
end Go.Proofs.YtjnbghpeaimmcaaDoor
