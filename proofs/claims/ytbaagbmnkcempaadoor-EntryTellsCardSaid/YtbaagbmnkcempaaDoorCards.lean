/-
  DERIVED. GIVEN WITH THE SEED: THE CARDS: each row of YtbaagbmnkcempaaDoorRows.lean that lists a variable, with what it lists TIED to the program's text (the seventh form; the later family's looks); each row that meets fmt, with fmt's text TOLD by the authors' own Lean function (tested against real Go, not proved from fmt's source: count such statements apart). THE CARD IS WHAT COUNTS. Prove the row's statement (the work); the ties are given (YtbaagbmnkcempaaDoorTie.lean); close each card by the builder's one call (the guide's Derived/Test/ToyasCard.lean, 'card_holds'). Laid BY PROGRAM, IN A SANDBOX (cutbox-door.mjs). By AI agents, Wed Nov 11 2026. No macro, syntax, notation, axiom, sorry.
-/
import Derived.Test.YtbaagbmnkcempaaDoorRows
import GoSem.ClaimSeven
namespace Go.Proofs.YtbaagbmnkcempaaDoor
namespace Rows

/-- THE TIED CARD OF 'merelaw1.FloorPlays'. -/
def floorPlaysCard : Claim7 := { stood := { row := floorPlaysRow, standIns := [], harness := (true, "f753c309e4d96ba6f744429afbe16f6236090761a52cc0d88b45db4ce4fa4438"), looks := true }, kinds := [], alts := [], laidByText := true, laidKinds := [.handle], laidTests := true, laidLooks := .later }
def FloorPlaysCardSaid : Prop := Claim7.holds Tryd.pinned (.plain (OpenSpec.ofChange floorPlaysSpec)) floorPlaysCard

/-- THE TIED CARD OF 'merelaw4.StoreGone'. -/
def storeGoneCard : Claim7 := { stood := { row := storeGoneRow, standIns := [], harness := (true, "f753c309e4d96ba6f744429afbe16f6236090761a52cc0d88b45db4ce4fa4438"), looks := true }, kinds := [], alts := [], laidByText := true, laidKinds := [.handle], laidTests := true, laidLooks := .later }
def StoreGoneCardSaid : Prop := Claim7.holds Tryd.pinned (.plain (OpenSpec.ofChange storeGoneSpec)) storeGoneCard

/-- THE TIED CARD OF 'merelaw1.EntryTells'. -/
def entryTellsCard : Claim7 := { stood := { row := entryTellsRow, standIns := [], harness := (true, "f753c309e4d96ba6f744429afbe16f6236090761a52cc0d88b45db4ce4fa4438"), looks := true }, kinds := [], alts := [], laidByText := true, laidKinds := [.handle], laidTests := true, laidLooks := .later }
def EntryTellsCardSaid : Prop := Claim7.holds Tryd.pinned (.plain (OpenSpec.ofChange entryTellsSpec)) entryTellsCard

/-- THE TIED CARD OF 'merelaw1.StorePlays'. -/
def storePlaysCard : Claim7 := { stood := { row := storePlaysRow, standIns := [], harness := (true, "f753c309e4d96ba6f744429afbe16f6236090761a52cc0d88b45db4ce4fa4438"), looks := true }, kinds := [], alts := [], laidByText := true, laidKinds := [.handle], laidTests := true, laidLooks := .later }
def StorePlaysCardSaid : Prop := Claim7.holds Tryd.pinned (.plain (OpenSpec.ofChange storePlaysSpec)) storePlaysCard

/-- THE TIED CARD OF 'merelaw1.StorePast'. -/
def storePastCard : Claim7 := { stood := { row := storePastRow, standIns := [], harness := (true, "f753c309e4d96ba6f744429afbe16f6236090761a52cc0d88b45db4ce4fa4438"), looks := true }, kinds := [], alts := [], laidByText := true, laidKinds := [.handle], laidTests := true, laidLooks := .later }
def StorePastCardSaid : Prop := Claim7.holds Tryd.pinned (.plain (OpenSpec.ofChange storePastSpec)) storePastCard

/-- THE SECOND FORM's CARD OF 'merelaw1.FloorPlays'. -/
def floorPlaysUptoCard : Claim7 := { stood := { row := floorPlaysUptoRow, standIns := [], harness := (true, "f753c309e4d96ba6f744429afbe16f6236090761a52cc0d88b45db4ce4fa4438"), looks := true }, kinds := [], alts := [], laidByText := true, laidKinds := [.handle], laidTests := true, laidLooks := .later }
def FloorPlaysUptoCardSaid : Prop := Claim7.holds Tryd.pinned (.plain (OpenSpec.upto floorPlaysSpec)) floorPlaysUptoCard

/-- THE SECOND FORM's CARD OF 'merelaw4.StoreGone'. -/
def storeGoneUptoCard : Claim7 := { stood := { row := storeGoneUptoRow, standIns := [], harness := (true, "f753c309e4d96ba6f744429afbe16f6236090761a52cc0d88b45db4ce4fa4438"), looks := true }, kinds := [], alts := [], laidByText := true, laidKinds := [.handle], laidTests := true, laidLooks := .later }
def StoreGoneUptoCardSaid : Prop := Claim7.holds Tryd.pinned (.plain (OpenSpec.upto storeGoneSpec)) storeGoneUptoCard

/-- THE SECOND FORM's CARD OF 'merelaw1.EntryTells'. -/
def entryTellsUptoCard : Claim7 := { stood := { row := entryTellsUptoRow, standIns := [], harness := (true, "f753c309e4d96ba6f744429afbe16f6236090761a52cc0d88b45db4ce4fa4438"), looks := true }, kinds := [], alts := [], laidByText := true, laidKinds := [.handle], laidTests := true, laidLooks := .later }
def EntryTellsUptoCardSaid : Prop := Claim7.holds Tryd.pinned (.plain (OpenSpec.upto entryTellsSpec)) entryTellsUptoCard

/-- THE SECOND FORM's CARD OF 'merelaw1.StorePlays'. -/
def storePlaysUptoCard : Claim7 := { stood := { row := storePlaysUptoRow, standIns := [], harness := (true, "f753c309e4d96ba6f744429afbe16f6236090761a52cc0d88b45db4ce4fa4438"), looks := true }, kinds := [], alts := [], laidByText := true, laidKinds := [.handle], laidTests := true, laidLooks := .later }
def StorePlaysUptoCardSaid : Prop := Claim7.holds Tryd.pinned (.plain (OpenSpec.upto storePlaysSpec)) storePlaysUptoCard

/-- THE SECOND FORM's CARD OF 'merelaw1.StorePast'. -/
def storePastUptoCard : Claim7 := { stood := { row := storePastUptoRow, standIns := [], harness := (true, "f753c309e4d96ba6f744429afbe16f6236090761a52cc0d88b45db4ce4fa4438"), looks := true }, kinds := [], alts := [], laidByText := true, laidKinds := [.handle], laidTests := true, laidLooks := .later }
def StorePastUptoCardSaid : Prop := Claim7.holds Tryd.pinned (.plain (OpenSpec.upto storePastSpec)) storePastUptoCard
end Rows
end Go.Proofs.YtbaagbmnkcempaaDoor
