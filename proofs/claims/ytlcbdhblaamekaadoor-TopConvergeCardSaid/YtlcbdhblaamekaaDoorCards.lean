/-
  DERIVED. GIVEN WITH THE SEED: THE CARDS: each row of YtlcbdhblaamekaaDoorRows.lean that lists a variable, with what it lists TIED to the program's text (the seventh form; the later family's looks); each row that meets fmt, with fmt's text TOLD by the authors' own Lean function (tested against real Go, not proved from fmt's source: count such statements apart). THE CARD IS WHAT COUNTS. Prove the row's statement (the work); the ties are given (YtlcbdhblaamekaaDoorTie.lean); close each card by the builder's one call (the guide's Derived/Test/ToyasCard.lean, 'card_holds'). Laid BY PROGRAM, IN A SANDBOX (cutbox-door.mjs). By AI agents, Wed Nov 11 2026. No macro, syntax, notation, axiom, sorry.
-/
import Derived.Test.YtlcbdhblaamekaaDoorRows
import GoSem.ClaimSeven
namespace Go.Proofs.YtlcbdhblaamekaaDoor
namespace Rows

/-- THE TIED CARD OF 'meretop.TopConverge'. -/
def topConvergeCard : Claim7 := { stood := { row := topConvergeRow, standIns := [], harness := (true, "89f575aec9075176a6f033f2d688bdd34e8669b2e28906f02d07236a55bf0966"), looks := false }, kinds := [], alts := [], laidByText := true, laidKinds := [.data, .data, .data], laidTests := true, laidLooks := .later }
def TopConvergeCardSaid : Prop := Claim7.holds Tryd.pinned (.plain (OpenSpec.ofChange topConvergeSpec)) topConvergeCard

/-- THE TIED CARD OF 'merelaw2.MeshTrue'. -/
def meshTrueCard : Claim7 := { stood := { row := meshTrueRow, standIns := [], harness := (true, "89f575aec9075176a6f033f2d688bdd34e8669b2e28906f02d07236a55bf0966"), looks := false }, kinds := [], alts := [], laidByText := true, laidKinds := [.data, .data, .data], laidTests := true, laidLooks := .later }
def MeshTrueCardSaid : Prop := Claim7.holds Tryd.pinned (.plain (OpenSpec.ofChange meshTrueSpec)) meshTrueCard

/-- THE SECOND FORM's CARD OF 'meretop.TopConverge'. -/
def topConvergeUptoCard : Claim7 := { stood := { row := topConvergeUptoRow, standIns := [], harness := (true, "89f575aec9075176a6f033f2d688bdd34e8669b2e28906f02d07236a55bf0966"), looks := false }, kinds := [], alts := [], laidByText := true, laidKinds := [.data, .data, .data], laidTests := true, laidLooks := .later }
def TopConvergeUptoCardSaid : Prop := Claim7.holds Tryd.pinned (.plain (OpenSpec.upto topConvergeSpec)) topConvergeUptoCard

/-- THE SECOND FORM's CARD OF 'merelaw2.MeshTrue'. -/
def meshTrueUptoCard : Claim7 := { stood := { row := meshTrueUptoRow, standIns := [], harness := (true, "89f575aec9075176a6f033f2d688bdd34e8669b2e28906f02d07236a55bf0966"), looks := false }, kinds := [], alts := [], laidByText := true, laidKinds := [.data, .data, .data], laidTests := true, laidLooks := .later }
def MeshTrueUptoCardSaid : Prop := Claim7.holds Tryd.pinned (.plain (OpenSpec.upto meshTrueSpec)) meshTrueUptoCard
end Rows
end Go.Proofs.YtlcbdhblaamekaaDoor
