/-
  DERIVED. GIVEN WITH THE SEED: THE CARDS: each row of YtgfbpabffnabaaaDoorRows.lean that lists a variable, with what it lists TIED to the program's text (the seventh form; the later family's looks); each row that meets fmt, with fmt's text TOLD by the authors' own Lean function (tested against real Go, not proved from fmt's source: count such statements apart). THE CARD IS WHAT COUNTS. Prove the row's statement (the work); the ties are given (YtgfbpabffnabaaaDoorTie.lean); close each card by the builder's one call (the guide's Derived/Test/ToyasCard.lean, 'card_holds'). Laid BY PROGRAM, IN A SANDBOX (cutbox-door.mjs). By AI agents, Wed Nov 11 2026. No macro, syntax, notation, axiom, sorry.
-/
import Derived.Test.YtgfbpabffnabaaaDoorRows
import GoSem.ClaimSeven
namespace Go.Proofs.YtgfbpabffnabaaaDoor
namespace Rows

/-- THE TIED CARD OF 'merelaw1.FreshTells'. -/
def freshTellsCard : Claim7 := { stood := { row := freshTellsRow, standIns := [], harness := (true, "9fed280fb7aa28289e9046f42da6b06b7e8b38fd6511765eb47459e617d96f34"), looks := true }, kinds := [], alts := [], laidByText := true, laidKinds := [.handle], laidTests := true, laidLooks := .later }
def FreshTellsCardSaid : Prop := Claim7.holds Tryd.pinned (.plain (OpenSpec.ofChange freshTellsSpec)) freshTellsCard

/-- THE TIED CARD OF 'merelaw1.FreshTrue'. -/
def freshTrueCard : Claim7 := { stood := { row := freshTrueRow, standIns := [], harness := (true, "9fed280fb7aa28289e9046f42da6b06b7e8b38fd6511765eb47459e617d96f34"), looks := true }, kinds := [], alts := [], laidByText := true, laidKinds := [.handle], laidTests := true, laidLooks := .later }
def FreshTrueCardSaid : Prop := Claim7.holds Tryd.pinned (.plain (OpenSpec.ofChange freshTrueSpec)) freshTrueCard

/-- THE TIED CARD OF 'merelaw1.TombTells'. -/
def tombTellsCard : Claim7 := { stood := { row := tombTellsRow, standIns := [], harness := (true, "9fed280fb7aa28289e9046f42da6b06b7e8b38fd6511765eb47459e617d96f34"), looks := true }, kinds := [], alts := [], laidByText := true, laidKinds := [.handle], laidTests := true, laidLooks := .later }
def TombTellsCardSaid : Prop := Claim7.holds Tryd.pinned (.plain (OpenSpec.ofChange tombTellsSpec)) tombTellsCard

/-- THE TIED CARD OF 'merelaw1.CacheTells'. -/
def cacheTellsCard : Claim7 := { stood := { row := cacheTellsRow, standIns := [], harness := (true, "9fed280fb7aa28289e9046f42da6b06b7e8b38fd6511765eb47459e617d96f34"), looks := true }, kinds := [], alts := [], laidByText := true, laidKinds := [.handle], laidTests := true, laidLooks := .later }
def CacheTellsCardSaid : Prop := Claim7.holds Tryd.pinned (.plain (OpenSpec.ofChange cacheTellsSpec)) cacheTellsCard

/-- THE TIED CARD OF 'merelaw2.RepairTells'. -/
def repairTellsCard : Claim7 := { stood := { row := repairTellsRow, standIns := [], harness := (true, "9fed280fb7aa28289e9046f42da6b06b7e8b38fd6511765eb47459e617d96f34"), looks := true }, kinds := [], alts := [], laidByText := true, laidKinds := [.handle], laidTests := true, laidLooks := .later }
def RepairTellsCardSaid : Prop := Claim7.holds Tryd.pinned (.plain (OpenSpec.ofChange repairTellsSpec)) repairTellsCard

/-- THE TIED CARD OF 'merelaw1.TombSafe'. -/
def tombSafeCard : Claim7 := { stood := { row := tombSafeRow, standIns := [], harness := (true, "9fed280fb7aa28289e9046f42da6b06b7e8b38fd6511765eb47459e617d96f34"), looks := true }, kinds := [], alts := [], laidByText := true, laidKinds := [.handle], laidTests := true, laidLooks := .later }
def TombSafeCardSaid : Prop := Claim7.holds Tryd.pinned (.plain (OpenSpec.ofChange tombSafeSpec)) tombSafeCard

/-- THE SECOND FORM's CARD OF 'merelaw1.FreshTells'. -/
def freshTellsUptoCard : Claim7 := { stood := { row := freshTellsUptoRow, standIns := [], harness := (true, "9fed280fb7aa28289e9046f42da6b06b7e8b38fd6511765eb47459e617d96f34"), looks := true }, kinds := [], alts := [], laidByText := true, laidKinds := [.handle], laidTests := true, laidLooks := .later }
def FreshTellsUptoCardSaid : Prop := Claim7.holds Tryd.pinned (.plain (OpenSpec.upto freshTellsSpec)) freshTellsUptoCard

/-- THE SECOND FORM's CARD OF 'merelaw1.FreshTrue'. -/
def freshTrueUptoCard : Claim7 := { stood := { row := freshTrueUptoRow, standIns := [], harness := (true, "9fed280fb7aa28289e9046f42da6b06b7e8b38fd6511765eb47459e617d96f34"), looks := true }, kinds := [], alts := [], laidByText := true, laidKinds := [.handle], laidTests := true, laidLooks := .later }
def FreshTrueUptoCardSaid : Prop := Claim7.holds Tryd.pinned (.plain (OpenSpec.upto freshTrueSpec)) freshTrueUptoCard

/-- THE SECOND FORM's CARD OF 'merelaw1.TombTells'. -/
def tombTellsUptoCard : Claim7 := { stood := { row := tombTellsUptoRow, standIns := [], harness := (true, "9fed280fb7aa28289e9046f42da6b06b7e8b38fd6511765eb47459e617d96f34"), looks := true }, kinds := [], alts := [], laidByText := true, laidKinds := [.handle], laidTests := true, laidLooks := .later }
def TombTellsUptoCardSaid : Prop := Claim7.holds Tryd.pinned (.plain (OpenSpec.upto tombTellsSpec)) tombTellsUptoCard

/-- THE SECOND FORM's CARD OF 'merelaw1.CacheTells'. -/
def cacheTellsUptoCard : Claim7 := { stood := { row := cacheTellsUptoRow, standIns := [], harness := (true, "9fed280fb7aa28289e9046f42da6b06b7e8b38fd6511765eb47459e617d96f34"), looks := true }, kinds := [], alts := [], laidByText := true, laidKinds := [.handle], laidTests := true, laidLooks := .later }
def CacheTellsUptoCardSaid : Prop := Claim7.holds Tryd.pinned (.plain (OpenSpec.upto cacheTellsSpec)) cacheTellsUptoCard

/-- THE SECOND FORM's CARD OF 'merelaw2.RepairTells'. -/
def repairTellsUptoCard : Claim7 := { stood := { row := repairTellsUptoRow, standIns := [], harness := (true, "9fed280fb7aa28289e9046f42da6b06b7e8b38fd6511765eb47459e617d96f34"), looks := true }, kinds := [], alts := [], laidByText := true, laidKinds := [.handle], laidTests := true, laidLooks := .later }
def RepairTellsUptoCardSaid : Prop := Claim7.holds Tryd.pinned (.plain (OpenSpec.upto repairTellsSpec)) repairTellsUptoCard

/-- THE SECOND FORM's CARD OF 'merelaw1.TombSafe'. -/
def tombSafeUptoCard : Claim7 := { stood := { row := tombSafeUptoRow, standIns := [], harness := (true, "9fed280fb7aa28289e9046f42da6b06b7e8b38fd6511765eb47459e617d96f34"), looks := true }, kinds := [], alts := [], laidByText := true, laidKinds := [.handle], laidTests := true, laidLooks := .later }
def TombSafeUptoCardSaid : Prop := Claim7.holds Tryd.pinned (.plain (OpenSpec.upto tombSafeSpec)) tombSafeUptoCard
end Rows
end Go.Proofs.YtgfbpabffnabaaaDoor
