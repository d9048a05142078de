/-
  DERIVED. GIVEN WITH THE SEED: THE CARDS: each row of YtdocdmpfokdjkaaDoorRows.lean that lists a variable, with what it lists TIED to the program's text (the seventh form; the later family's looks); each row that meets fmt, with fmt's text TOLD by the authors' own Lean function (tested against real Go, not proved from fmt's source: count such statements apart). THE CARD IS WHAT COUNTS. Prove the row's statement (the work); the ties are given (YtdocdmpfokdjkaaDoorTie.lean); close each card by the builder's one call (the guide's Derived/Test/ToyasCard.lean, 'card_holds'). Laid BY PROGRAM, IN A SANDBOX (cutbox-door.mjs). By AI agents, Wed Nov 11 2026. No macro, syntax, notation, axiom, sorry.
-/
import Derived.Test.YtdocdmpfokdjkaaDoorRows
import GoSem.ClaimSeven
namespace Go.Proofs.YtdocdmpfokdjkaaDoor
namespace Rows

/-- THE TIED CARD OF 'merelaw2.GossipTells'. -/
def gossipTellsCard : Claim7 := { stood := { row := gossipTellsRow, standIns := [], harness := (true, "86ea5d900ce69e39504610862edbbb04105a7dacc21abaec3db13a43c1936d66"), looks := true }, kinds := [], alts := [], laidByText := true, laidKinds := [.handle], laidTests := true, laidLooks := .later }
def GossipTellsCardSaid : Prop := Claim7.holds Tryd.pinned (.plain (OpenSpec.ofChange gossipTellsSpec)) gossipTellsCard

/-- THE TIED CARD OF 'merelaw4.MeshEmpty'. -/
def meshEmptyCard : Claim7 := { stood := { row := meshEmptyRow, standIns := [], harness := (true, "86ea5d900ce69e39504610862edbbb04105a7dacc21abaec3db13a43c1936d66"), looks := true }, kinds := [], alts := [], laidByText := true, laidKinds := [.handle], laidTests := true, laidLooks := .later }
def MeshEmptyCardSaid : Prop := Claim7.holds Tryd.pinned (.plain (OpenSpec.ofChange meshEmptySpec)) meshEmptyCard

/-- THE TIED CARD OF 'merelaw2.RepairTells'. -/
def repairTellsCard : Claim7 := { stood := { row := repairTellsRow, standIns := [], harness := (true, "86ea5d900ce69e39504610862edbbb04105a7dacc21abaec3db13a43c1936d66"), looks := true }, kinds := [], alts := [], laidByText := true, laidKinds := [.handle], laidTests := true, laidLooks := .later }
def RepairTellsCardSaid : Prop := Claim7.holds Tryd.pinned (.plain (OpenSpec.ofChange repairTellsSpec)) repairTellsCard

/-- THE SECOND FORM's CARD OF 'merelaw2.GossipTells'. -/
def gossipTellsUptoCard : Claim7 := { stood := { row := gossipTellsUptoRow, standIns := [], harness := (true, "86ea5d900ce69e39504610862edbbb04105a7dacc21abaec3db13a43c1936d66"), looks := true }, kinds := [], alts := [], laidByText := true, laidKinds := [.handle], laidTests := true, laidLooks := .later }
def GossipTellsUptoCardSaid : Prop := Claim7.holds Tryd.pinned (.plain (OpenSpec.upto gossipTellsSpec)) gossipTellsUptoCard

/-- THE SECOND FORM's CARD OF 'merelaw4.MeshEmpty'. -/
def meshEmptyUptoCard : Claim7 := { stood := { row := meshEmptyUptoRow, standIns := [], harness := (true, "86ea5d900ce69e39504610862edbbb04105a7dacc21abaec3db13a43c1936d66"), looks := true }, kinds := [], alts := [], laidByText := true, laidKinds := [.handle], laidTests := true, laidLooks := .later }
def MeshEmptyUptoCardSaid : Prop := Claim7.holds Tryd.pinned (.plain (OpenSpec.upto meshEmptySpec)) meshEmptyUptoCard

/-- THE SECOND FORM's CARD OF 'merelaw2.RepairTells'. -/
def repairTellsUptoCard : Claim7 := { stood := { row := repairTellsUptoRow, standIns := [], harness := (true, "86ea5d900ce69e39504610862edbbb04105a7dacc21abaec3db13a43c1936d66"), looks := true }, kinds := [], alts := [], laidByText := true, laidKinds := [.handle], laidTests := true, laidLooks := .later }
def RepairTellsUptoCardSaid : Prop := Claim7.holds Tryd.pinned (.plain (OpenSpec.upto repairTellsSpec)) repairTellsUptoCard
end Rows
end Go.Proofs.YtdocdmpfokdjkaaDoor
