/-
  DERIVED. GIVEN WITH THE SEED: THE CARDS: each row of YtdnkegcffmjemaaDoorRows.lean that lists a variable, with what it lists TIED to the program's text (the seventh form; the later family's looks); each row that meets fmt, with fmt's text TOLD by the authors' own Lean function (tested against real Go, not proved from fmt's source: count such statements apart). THE CARD IS WHAT COUNTS. Prove the row's statement (the work); the ties are given (YtdnkegcffmjemaaDoorTie.lean); close each card by the builder's one call (the guide's Derived/Test/ToyasCard.lean, 'card_holds'). Laid BY PROGRAM, IN A SANDBOX (cutbox-door.mjs). By AI agents, Wed Nov 11 2026. No macro, syntax, notation, axiom, sorry.
-/
import Derived.Test.YtdnkegcffmjemaaDoorRows
import GoSem.ClaimSeven
namespace Go.Proofs.YtdnkegcffmjemaaDoor
namespace Rows

/-- THE TIED CARD OF 'merelaw1.FloorPlays'. -/
def floorPlaysCard : Claim7 := { stood := { row := floorPlaysRow, standIns := [], harness := (true, "aface47d544f98482ec0e2848b36de787ad11f57c7722e6a8fb306d6525d0354"), looks := true }, kinds := [], alts := [], laidByText := true, laidKinds := [.handle], laidTests := true, laidLooks := .later }
def FloorPlaysCardSaid : Prop := Claim7.holds Tryd.pinned (.plain (OpenSpec.ofChange floorPlaysSpec)) floorPlaysCard

/-- THE TIED CARD OF 'merelaw4.StoreGone'. -/
def storeGoneCard : Claim7 := { stood := { row := storeGoneRow, standIns := [], harness := (true, "aface47d544f98482ec0e2848b36de787ad11f57c7722e6a8fb306d6525d0354"), looks := true }, kinds := [], alts := [], laidByText := true, laidKinds := [.handle], laidTests := true, laidLooks := .later }
def StoreGoneCardSaid : Prop := Claim7.holds Tryd.pinned (.plain (OpenSpec.ofChange storeGoneSpec)) storeGoneCard

/-- THE TIED CARD OF 'merelaw1.StorePlays'. -/
def storePlaysCard : Claim7 := { stood := { row := storePlaysRow, standIns := [], harness := (true, "aface47d544f98482ec0e2848b36de787ad11f57c7722e6a8fb306d6525d0354"), looks := true }, kinds := [], alts := [], laidByText := true, laidKinds := [.handle], laidTests := true, laidLooks := .later }
def StorePlaysCardSaid : Prop := Claim7.holds Tryd.pinned (.plain (OpenSpec.ofChange storePlaysSpec)) storePlaysCard

/-- THE TIED CARD OF 'merelaw1.StorePast'. -/
def storePastCard : Claim7 := { stood := { row := storePastRow, standIns := [], harness := (true, "aface47d544f98482ec0e2848b36de787ad11f57c7722e6a8fb306d6525d0354"), looks := true }, kinds := [], alts := [], laidByText := true, laidKinds := [.handle], laidTests := true, laidLooks := .later }
def StorePastCardSaid : Prop := Claim7.holds Tryd.pinned (.plain (OpenSpec.ofChange storePastSpec)) storePastCard

/-- THE SECOND FORM's CARD OF 'merelaw1.FloorPlays'. -/
def floorPlaysUptoCard : Claim7 := { stood := { row := floorPlaysUptoRow, standIns := [], harness := (true, "aface47d544f98482ec0e2848b36de787ad11f57c7722e6a8fb306d6525d0354"), looks := true }, kinds := [], alts := [], laidByText := true, laidKinds := [.handle], laidTests := true, laidLooks := .later }
def FloorPlaysUptoCardSaid : Prop := Claim7.holds Tryd.pinned (.plain (OpenSpec.upto floorPlaysSpec)) floorPlaysUptoCard

/-- THE SECOND FORM's CARD OF 'merelaw4.StoreGone'. -/
def storeGoneUptoCard : Claim7 := { stood := { row := storeGoneUptoRow, standIns := [], harness := (true, "aface47d544f98482ec0e2848b36de787ad11f57c7722e6a8fb306d6525d0354"), looks := true }, kinds := [], alts := [], laidByText := true, laidKinds := [.handle], laidTests := true, laidLooks := .later }
def StoreGoneUptoCardSaid : Prop := Claim7.holds Tryd.pinned (.plain (OpenSpec.upto storeGoneSpec)) storeGoneUptoCard

/-- THE SECOND FORM's CARD OF 'merelaw1.StorePlays'. -/
def storePlaysUptoCard : Claim7 := { stood := { row := storePlaysUptoRow, standIns := [], harness := (true, "aface47d544f98482ec0e2848b36de787ad11f57c7722e6a8fb306d6525d0354"), looks := true }, kinds := [], alts := [], laidByText := true, laidKinds := [.handle], laidTests := true, laidLooks := .later }
def StorePlaysUptoCardSaid : Prop := Claim7.holds Tryd.pinned (.plain (OpenSpec.upto storePlaysSpec)) storePlaysUptoCard

/-- THE SECOND FORM's CARD OF 'merelaw1.StorePast'. -/
def storePastUptoCard : Claim7 := { stood := { row := storePastUptoRow, standIns := [], harness := (true, "aface47d544f98482ec0e2848b36de787ad11f57c7722e6a8fb306d6525d0354"), looks := true }, kinds := [], alts := [], laidByText := true, laidKinds := [.handle], laidTests := true, laidLooks := .later }
def StorePastUptoCardSaid : Prop := Claim7.holds Tryd.pinned (.plain (OpenSpec.upto storePastSpec)) storePastUptoCard
end Rows
end Go.Proofs.YtdnkegcffmjemaaDoor
