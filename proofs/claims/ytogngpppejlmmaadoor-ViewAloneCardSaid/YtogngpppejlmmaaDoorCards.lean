/-
  DERIVED. GIVEN WITH THE SEED: THE CARDS: each row of YtogngpppejlmmaaDoorRows.lean that lists a variable, with what it lists TIED to the program's text (the seventh form; the later family's looks); each row that meets fmt, with fmt's text TOLD by the authors' own Lean function (tested against real Go, not proved from fmt's source: count such statements apart). THE CARD IS WHAT COUNTS. Prove the row's statement (the work); the ties are given (YtogngpppejlmmaaDoorTie.lean); close each card by the builder's one call (the guide's Derived/Test/ToyasCard.lean, 'card_holds'). Laid BY PROGRAM, IN A SANDBOX (cutbox-door.mjs). By AI agents, Wed Nov 11 2026. No macro, syntax, notation, axiom, sorry.
-/
import Derived.Test.YtogngpppejlmmaaDoorRows
import GoSem.ClaimSeven
namespace Go.Proofs.YtogngpppejlmmaaDoor
namespace Rows

/-- THE TIED CARD OF 'merelaw4.ViewAlone'. -/
def viewAloneCard : Claim7 := { stood := { row := viewAloneRow, standIns := [], harness := (true, "f4ab3920892d639aca06f60a7ac51372e038c62acbf003f76933f7f61fdad2bd"), looks := true }, kinds := [], alts := [], laidByText := true, laidKinds := [.handle], laidTests := true, laidLooks := .later }
def ViewAloneCardSaid : Prop := Claim7.holds Tryd.pinned (.plain (OpenSpec.ofChange viewAloneSpec)) viewAloneCard

/-- THE TIED CARD OF 'merelaw2.ViewTells'. -/
def viewTellsCard : Claim7 := { stood := { row := viewTellsRow, standIns := [], harness := (true, "f4ab3920892d639aca06f60a7ac51372e038c62acbf003f76933f7f61fdad2bd"), looks := true }, kinds := [], alts := [], laidByText := true, laidKinds := [.handle], laidTests := true, laidLooks := .later }
def ViewTellsCardSaid : Prop := Claim7.holds Tryd.pinned (.plain (OpenSpec.ofChange viewTellsSpec)) viewTellsCard

/-- THE TIED CARD OF 'merelaw2.RumorTells'. -/
def rumorTellsCard : Claim7 := { stood := { row := rumorTellsRow, standIns := [], harness := (true, "f4ab3920892d639aca06f60a7ac51372e038c62acbf003f76933f7f61fdad2bd"), looks := true }, kinds := [], alts := [], laidByText := true, laidKinds := [.handle], laidTests := true, laidLooks := .later }
def RumorTellsCardSaid : Prop := Claim7.holds Tryd.pinned (.plain (OpenSpec.ofChange rumorTellsSpec)) rumorTellsCard

/-- THE SECOND FORM's CARD OF 'merelaw4.ViewAlone'. -/
def viewAloneUptoCard : Claim7 := { stood := { row := viewAloneUptoRow, standIns := [], harness := (true, "f4ab3920892d639aca06f60a7ac51372e038c62acbf003f76933f7f61fdad2bd"), looks := true }, kinds := [], alts := [], laidByText := true, laidKinds := [.handle], laidTests := true, laidLooks := .later }
def ViewAloneUptoCardSaid : Prop := Claim7.holds Tryd.pinned (.plain (OpenSpec.upto viewAloneSpec)) viewAloneUptoCard

/-- THE SECOND FORM's CARD OF 'merelaw2.ViewTells'. -/
def viewTellsUptoCard : Claim7 := { stood := { row := viewTellsUptoRow, standIns := [], harness := (true, "f4ab3920892d639aca06f60a7ac51372e038c62acbf003f76933f7f61fdad2bd"), looks := true }, kinds := [], alts := [], laidByText := true, laidKinds := [.handle], laidTests := true, laidLooks := .later }
def ViewTellsUptoCardSaid : Prop := Claim7.holds Tryd.pinned (.plain (OpenSpec.upto viewTellsSpec)) viewTellsUptoCard

/-- THE SECOND FORM's CARD OF 'merelaw2.RumorTells'. -/
def rumorTellsUptoCard : Claim7 := { stood := { row := rumorTellsUptoRow, standIns := [], harness := (true, "f4ab3920892d639aca06f60a7ac51372e038c62acbf003f76933f7f61fdad2bd"), looks := true }, kinds := [], alts := [], laidByText := true, laidKinds := [.handle], laidTests := true, laidLooks := .later }
def RumorTellsUptoCardSaid : Prop := Claim7.holds Tryd.pinned (.plain (OpenSpec.upto rumorTellsSpec)) rumorTellsUptoCard
end Rows
end Go.Proofs.YtogngpppejlmmaaDoor
