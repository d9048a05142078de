/-
  DERIVED. GIVEN WITH THE SEED: THE CARDS: each row of YtlcdipodjjoflaaDoorRows.lean that lists a variable, with what it lists TIED to the program's text (the seventh form; the later family's looks); each row that meets fmt, with fmt's text TOLD by the authors' own Lean function (tested against real Go, not proved from fmt's source: count such statements apart). THE CARD IS WHAT COUNTS. Prove the row's statement (the work); the ties are given (YtlcdipodjjoflaaDoorTie.lean); close each card by the builder's one call (the guide's Derived/Test/ToyasCard.lean, 'card_holds'). Laid BY PROGRAM, IN A SANDBOX (cutbox-door.mjs). By AI agents, Wed Nov 11 2026. No macro, syntax, notation, axiom, sorry.
-/
import Derived.Test.YtlcdipodjjoflaaDoorRows
import GoSem.ClaimSeven
namespace Go.Proofs.YtlcdipodjjoflaaDoor
namespace Rows

/-- THE TIED CARD OF 'merelaw4.HashTwo'. -/
def hashTwoCard : Claim7 := { stood := { row := hashTwoRow, standIns := [], harness := (true, "f39be4bce9b63f7586cc458a8fa5dd23f71c1cbac2ef8a40eb4848c042f5a75e"), looks := true }, kinds := [], alts := [], laidByText := true, laidKinds := [.data, .data, .data], laidTests := true, laidLooks := .later }
def HashTwoCardSaid : Prop := Claim7.holds Tryd.pinned (.plain (OpenSpec.ofChange hashTwoSpec)) hashTwoCard

/-- THE TIED CARD OF 'merelaw1.HashGoes'. -/
def hashGoesCard : Claim7 := { stood := { row := hashGoesRow, standIns := [], harness := (true, "f39be4bce9b63f7586cc458a8fa5dd23f71c1cbac2ef8a40eb4848c042f5a75e"), looks := true }, kinds := [], alts := [], laidByText := true, laidKinds := [.data, .data, .data], laidTests := true, laidLooks := .later }
def HashGoesCardSaid : Prop := Claim7.holds Tryd.pinned (.plain (OpenSpec.ofChange hashGoesSpec)) hashGoesCard

/-- THE TIED CARD OF 'merelaw1.HashTells'. -/
def hashTellsCard : Claim7 := { stood := { row := hashTellsRow, standIns := [], harness := (true, "f39be4bce9b63f7586cc458a8fa5dd23f71c1cbac2ef8a40eb4848c042f5a75e"), looks := true }, kinds := [], alts := [], laidByText := true, laidKinds := [.data, .data, .data, .handle], laidTests := true, laidLooks := .later }
def HashTellsCardSaid : Prop := Claim7.holds Tryd.pinned (.plain (OpenSpec.ofChange hashTellsSpec)) hashTellsCard

/-- THE SECOND FORM's CARD OF 'merelaw4.HashTwo'. -/
def hashTwoUptoCard : Claim7 := { stood := { row := hashTwoUptoRow, standIns := [], harness := (true, "f39be4bce9b63f7586cc458a8fa5dd23f71c1cbac2ef8a40eb4848c042f5a75e"), looks := true }, kinds := [], alts := [], laidByText := true, laidKinds := [.data, .data, .data], laidTests := true, laidLooks := .later }
def HashTwoUptoCardSaid : Prop := Claim7.holds Tryd.pinned (.plain (OpenSpec.upto hashTwoSpec)) hashTwoUptoCard

/-- THE SECOND FORM's CARD OF 'merelaw1.HashGoes'. -/
def hashGoesUptoCard : Claim7 := { stood := { row := hashGoesUptoRow, standIns := [], harness := (true, "f39be4bce9b63f7586cc458a8fa5dd23f71c1cbac2ef8a40eb4848c042f5a75e"), looks := true }, kinds := [], alts := [], laidByText := true, laidKinds := [.data, .data, .data], laidTests := true, laidLooks := .later }
def HashGoesUptoCardSaid : Prop := Claim7.holds Tryd.pinned (.plain (OpenSpec.upto hashGoesSpec)) hashGoesUptoCard

/-- THE SECOND FORM's CARD OF 'merelaw1.HashTells'. -/
def hashTellsUptoCard : Claim7 := { stood := { row := hashTellsUptoRow, standIns := [], harness := (true, "f39be4bce9b63f7586cc458a8fa5dd23f71c1cbac2ef8a40eb4848c042f5a75e"), looks := true }, kinds := [], alts := [], laidByText := true, laidKinds := [.data, .data, .data, .handle], laidTests := true, laidLooks := .later }
def HashTellsUptoCardSaid : Prop := Claim7.holds Tryd.pinned (.plain (OpenSpec.upto hashTellsSpec)) hashTellsUptoCard
end Rows
end Go.Proofs.YtlcdipodjjoflaaDoor
