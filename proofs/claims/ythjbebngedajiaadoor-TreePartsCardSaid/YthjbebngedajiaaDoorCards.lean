/-
  DERIVED. GIVEN WITH THE SEED: THE CARDS: each row of YthjbebngedajiaaDoorRows.lean that lists a variable, with what it lists TIED to the program's text (the seventh form; the later family's looks); each row that meets fmt, with fmt's text TOLD by the authors' own Lean function (tested against real Go, not proved from fmt's source: count such statements apart). THE CARD IS WHAT COUNTS. Prove the row's statement (the work); the ties are given (YthjbebngedajiaaDoorTie.lean); close each card by the builder's one call (the guide's Derived/Test/ToyasCard.lean, 'card_holds'). Laid BY PROGRAM, IN A SANDBOX (cutbox-door.mjs). By AI agents, Wed Nov 11 2026. No macro, syntax, notation, axiom, sorry.
-/
import Derived.Test.YthjbebngedajiaaDoorRows
import GoSem.ClaimSeven
namespace Go.Proofs.YthjbebngedajiaaDoor
namespace Rows

/-- THE TIED CARD OF 'merelaw1.FreshTells'. -/
def freshTellsCard : Claim7 := { stood := { row := freshTellsRow, standIns := [], harness := (true, "358d4c1d51762dcc9731fdab82ed7c2c2c6f236c662f53d771afc6ddad8f4fa3"), looks := true }, kinds := [], alts := [], laidByText := true, laidKinds := [.handle], laidTests := true, laidLooks := .later }
def FreshTellsCardSaid : Prop := Claim7.holds Tryd.pinned (.plain (OpenSpec.ofChange freshTellsSpec)) freshTellsCard

/-- THE TIED CARD OF 'merelaw1.TombTells'. -/
def tombTellsCard : Claim7 := { stood := { row := tombTellsRow, standIns := [], harness := (true, "358d4c1d51762dcc9731fdab82ed7c2c2c6f236c662f53d771afc6ddad8f4fa3"), looks := true }, kinds := [], alts := [], laidByText := true, laidKinds := [.handle], laidTests := true, laidLooks := .later }
def TombTellsCardSaid : Prop := Claim7.holds Tryd.pinned (.plain (OpenSpec.ofChange tombTellsSpec)) tombTellsCard

/-- THE TIED CARD OF 'merelaw1.TreeParts'. -/
def treePartsCard : Claim7 := { stood := { row := treePartsRow, standIns := [], harness := (true, "358d4c1d51762dcc9731fdab82ed7c2c2c6f236c662f53d771afc6ddad8f4fa3"), looks := true }, kinds := [], alts := [], laidByText := true, laidKinds := [.data, .data, .data], laidTests := true, laidLooks := .later }
def TreePartsCardSaid : Prop := Claim7.holds Tryd.pinned (.plain (OpenSpec.ofChange treePartsSpec)) treePartsCard

/-- THE TIED CARD OF 'merelaw2.RepairTells'. -/
def repairTellsCard : Claim7 := { stood := { row := repairTellsRow, standIns := [], harness := (true, "358d4c1d51762dcc9731fdab82ed7c2c2c6f236c662f53d771afc6ddad8f4fa3"), looks := true }, kinds := [], alts := [], laidByText := true, laidKinds := [.handle], laidTests := true, laidLooks := .later }
def RepairTellsCardSaid : Prop := Claim7.holds Tryd.pinned (.plain (OpenSpec.ofChange repairTellsSpec)) repairTellsCard

/-- THE TIED CARD OF 'merelaw1.TreeTells'. -/
def treeTellsCard : Claim7 := { stood := { row := treeTellsRow, standIns := [], harness := (true, "358d4c1d51762dcc9731fdab82ed7c2c2c6f236c662f53d771afc6ddad8f4fa3"), looks := true }, kinds := [], alts := [], laidByText := true, laidKinds := [.data, .data, .data, .handle], laidTests := true, laidLooks := .later }
def TreeTellsCardSaid : Prop := Claim7.holds Tryd.pinned (.plain (OpenSpec.ofChange treeTellsSpec)) treeTellsCard

/-- THE TIED CARD OF 'merelaw4.TreeLeaf'. -/
def treeLeafCard : Claim7 := { stood := { row := treeLeafRow, standIns := [], harness := (true, "358d4c1d51762dcc9731fdab82ed7c2c2c6f236c662f53d771afc6ddad8f4fa3"), looks := true }, kinds := [], alts := [], laidByText := true, laidKinds := [.data, .data, .data, .handle], laidTests := true, laidLooks := .later }
def TreeLeafCardSaid : Prop := Claim7.holds Tryd.pinned (.plain (OpenSpec.ofChange treeLeafSpec)) treeLeafCard

/-- THE TIED CARD OF 'merelaw4.SwapNone'. -/
def swapNoneCard : Claim7 := { stood := { row := swapNoneRow, standIns := [], harness := (true, "358d4c1d51762dcc9731fdab82ed7c2c2c6f236c662f53d771afc6ddad8f4fa3"), looks := true }, kinds := [], alts := [], laidByText := true, laidKinds := [.data, .data, .data], laidTests := true, laidLooks := .later }
def SwapNoneCardSaid : Prop := Claim7.holds Tryd.pinned (.plain (OpenSpec.ofChange swapNoneSpec)) swapNoneCard

/-- THE TIED CARD OF 'merelaw2.SwapAlike'. -/
def swapAlikeCard : Claim7 := { stood := { row := swapAlikeRow, standIns := [], harness := (true, "358d4c1d51762dcc9731fdab82ed7c2c2c6f236c662f53d771afc6ddad8f4fa3"), looks := true }, kinds := [], alts := [], laidByText := true, laidKinds := [.data, .data, .data], laidTests := true, laidLooks := .later }
def SwapAlikeCardSaid : Prop := Claim7.holds Tryd.pinned (.plain (OpenSpec.ofChange swapAlikeSpec)) swapAlikeCard

/-- THE TIED CARD OF 'merelaw2.SwapTells'. -/
def swapTellsCard : Claim7 := { stood := { row := swapTellsRow, standIns := [], harness := (true, "358d4c1d51762dcc9731fdab82ed7c2c2c6f236c662f53d771afc6ddad8f4fa3"), looks := true }, kinds := [], alts := [], laidByText := true, laidKinds := [.data, .data, .data, .handle], laidTests := true, laidLooks := .later }
def SwapTellsCardSaid : Prop := Claim7.holds Tryd.pinned (.plain (OpenSpec.ofChange swapTellsSpec)) swapTellsCard

/-- THE SECOND FORM's CARD OF 'merelaw1.FreshTells'. -/
def freshTellsUptoCard : Claim7 := { stood := { row := freshTellsUptoRow, standIns := [], harness := (true, "358d4c1d51762dcc9731fdab82ed7c2c2c6f236c662f53d771afc6ddad8f4fa3"), looks := true }, kinds := [], alts := [], laidByText := true, laidKinds := [.handle], laidTests := true, laidLooks := .later }
def FreshTellsUptoCardSaid : Prop := Claim7.holds Tryd.pinned (.plain (OpenSpec.upto freshTellsSpec)) freshTellsUptoCard

/-- THE SECOND FORM's CARD OF 'merelaw1.TombTells'. -/
def tombTellsUptoCard : Claim7 := { stood := { row := tombTellsUptoRow, standIns := [], harness := (true, "358d4c1d51762dcc9731fdab82ed7c2c2c6f236c662f53d771afc6ddad8f4fa3"), looks := true }, kinds := [], alts := [], laidByText := true, laidKinds := [.handle], laidTests := true, laidLooks := .later }
def TombTellsUptoCardSaid : Prop := Claim7.holds Tryd.pinned (.plain (OpenSpec.upto tombTellsSpec)) tombTellsUptoCard

/-- THE SECOND FORM's CARD OF 'merelaw1.TreeParts'. -/
def treePartsUptoCard : Claim7 := { stood := { row := treePartsUptoRow, standIns := [], harness := (true, "358d4c1d51762dcc9731fdab82ed7c2c2c6f236c662f53d771afc6ddad8f4fa3"), looks := true }, kinds := [], alts := [], laidByText := true, laidKinds := [.data, .data, .data], laidTests := true, laidLooks := .later }
def TreePartsUptoCardSaid : Prop := Claim7.holds Tryd.pinned (.plain (OpenSpec.upto treePartsSpec)) treePartsUptoCard

/-- THE SECOND FORM's CARD OF 'merelaw2.RepairTells'. -/
def repairTellsUptoCard : Claim7 := { stood := { row := repairTellsUptoRow, standIns := [], harness := (true, "358d4c1d51762dcc9731fdab82ed7c2c2c6f236c662f53d771afc6ddad8f4fa3"), looks := true }, kinds := [], alts := [], laidByText := true, laidKinds := [.handle], laidTests := true, laidLooks := .later }
def RepairTellsUptoCardSaid : Prop := Claim7.holds Tryd.pinned (.plain (OpenSpec.upto repairTellsSpec)) repairTellsUptoCard

/-- THE SECOND FORM's CARD OF 'merelaw1.TreeTells'. -/
def treeTellsUptoCard : Claim7 := { stood := { row := treeTellsUptoRow, standIns := [], harness := (true, "358d4c1d51762dcc9731fdab82ed7c2c2c6f236c662f53d771afc6ddad8f4fa3"), looks := true }, kinds := [], alts := [], laidByText := true, laidKinds := [.data, .data, .data, .handle], laidTests := true, laidLooks := .later }
def TreeTellsUptoCardSaid : Prop := Claim7.holds Tryd.pinned (.plain (OpenSpec.upto treeTellsSpec)) treeTellsUptoCard

/-- THE SECOND FORM's CARD OF 'merelaw4.TreeLeaf'. -/
def treeLeafUptoCard : Claim7 := { stood := { row := treeLeafUptoRow, standIns := [], harness := (true, "358d4c1d51762dcc9731fdab82ed7c2c2c6f236c662f53d771afc6ddad8f4fa3"), looks := true }, kinds := [], alts := [], laidByText := true, laidKinds := [.data, .data, .data, .handle], laidTests := true, laidLooks := .later }
def TreeLeafUptoCardSaid : Prop := Claim7.holds Tryd.pinned (.plain (OpenSpec.upto treeLeafSpec)) treeLeafUptoCard

/-- THE SECOND FORM's CARD OF 'merelaw4.SwapNone'. -/
def swapNoneUptoCard : Claim7 := { stood := { row := swapNoneUptoRow, standIns := [], harness := (true, "358d4c1d51762dcc9731fdab82ed7c2c2c6f236c662f53d771afc6ddad8f4fa3"), looks := true }, kinds := [], alts := [], laidByText := true, laidKinds := [.data, .data, .data], laidTests := true, laidLooks := .later }
def SwapNoneUptoCardSaid : Prop := Claim7.holds Tryd.pinned (.plain (OpenSpec.upto swapNoneSpec)) swapNoneUptoCard

/-- THE SECOND FORM's CARD OF 'merelaw2.SwapAlike'. -/
def swapAlikeUptoCard : Claim7 := { stood := { row := swapAlikeUptoRow, standIns := [], harness := (true, "358d4c1d51762dcc9731fdab82ed7c2c2c6f236c662f53d771afc6ddad8f4fa3"), looks := true }, kinds := [], alts := [], laidByText := true, laidKinds := [.data, .data, .data], laidTests := true, laidLooks := .later }
def SwapAlikeUptoCardSaid : Prop := Claim7.holds Tryd.pinned (.plain (OpenSpec.upto swapAlikeSpec)) swapAlikeUptoCard

/-- THE SECOND FORM's CARD OF 'merelaw2.SwapTells'. -/
def swapTellsUptoCard : Claim7 := { stood := { row := swapTellsUptoRow, standIns := [], harness := (true, "358d4c1d51762dcc9731fdab82ed7c2c2c6f236c662f53d771afc6ddad8f4fa3"), looks := true }, kinds := [], alts := [], laidByText := true, laidKinds := [.data, .data, .data, .handle], laidTests := true, laidLooks := .later }
def SwapTellsUptoCardSaid : Prop := Claim7.holds Tryd.pinned (.plain (OpenSpec.upto swapTellsSpec)) swapTellsUptoCard
end Rows
end Go.Proofs.YthjbebngedajiaaDoor
