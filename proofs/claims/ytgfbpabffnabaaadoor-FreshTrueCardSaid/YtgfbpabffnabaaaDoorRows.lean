/-
  NARROWER THAN 'FOR EVERY INPUT', by the rows' own cells (each row's printed sentence says how): FreshTells: laid · FreshTrue: laid · TombTells: laid · CacheTells: laid · RepairTells: laid · TombSafe: laid.
  DERIVED. THE GIVEN ROWS OF THIS SEAT. 6 by the template 'for every input the law returns true; each argument reads behind the call as it read before'; 0 by the template 'total and deterministic' (their statements: YtgfbpabffnabaaaDoorTotals.lean).
  GIVEN WITH THE SEED: the statements are not yours to turn. If you find one false, say at which input.
  Laid BY PROGRAM, IN A SANDBOX (cutbox-rows.mjs): the forced cells as the released guide's own fill.sh prints them over the translation 4df0b464e95c2bf0… (all of the seat's roots in one cut). By AI agents, Wed Nov 11 2026. No macro, syntax, notation, axiom, sorry.
-/
import Derived.Test.YtgfbpabffnabaaaDoorChecked
import GoSem.Claim
import GoSem.ClaimJoined
import GoSem.ClaimMapViews
import Derived.JoinedTies
import Derived.KernelRfl
namespace Go.Proofs.YtgfbpabffnabaaaDoor
/- THE CELL 'sum', in the pinned program and in every row, IS THE sha256 OF THE DUMP (.gsa) THAT YtgfbpabffnabaaaDoorProg.lean LOADS. Nothing in Lean hashes anything: it is a label: what it is worth is what the hold of that sum in a sandbox is worth. -/
noncomputable def Tryd.pinned : Pinned := { name := "ytgfbpabffnabaaadoor", sum := "4df0b464e95c2bf023099ccbc905940a1abd3c73dd60a1e73f56eadf4a3c824e", checked := Tryd.checked }
namespace Rows
def none {H : Type} : Left H := { results := [], args := [] }

/- WHAT THE LISTED PACKAGE-LEVEL VARIABLES READ AS WHEN THE CALL BEGINS. Each datum BY PROGRAM (the guide's laid-datum.mjs) off the statement by which the dump's own 'gosem.cut.vars' lays the variable. In a bare row this is a premise. The card (YtgfbpabffnabaaaDoorCards.lean) ties it to the program's text. -/
def laid_errors_errorType {H : Type} : DataW H := .iface "internal/reflectlite.rtype" (.agg [.ptr (.lit (.string [101, 114, 114, 111, 114]))])

/-- 'merelaw1.FreshTells': WHATEVER THE INPUT: true; the input reads as it did. -/
def freshTellsSpec : ChangeSpec := { name := "freshTells", fn := fun _ => fun
  | [d1, d2, d3, d4, d5] => { results := [.lit (.bool true)], args := [d1, d2, d3, d4, d5] }
  | _ => none }
def freshTellsRow : OpenClaim := { program := "ytgfbpabffnabaaadoor", sum := "4df0b464e95c2bf023099ccbc905940a1abd3c73dd60a1e73f56eadf4a3c824e", func := "beaconmere/merelaw1.FreshTells", spec := "freshTells", inPlace := ["internal/reflectlite.ValueOf", "(internal/reflectlite.Value).Type", "(internal/reflectlite.Value).IsNil", "internal/reflectlite.TypeOf", "(internal/reflectlite.Value).Elem", "(internal/reflectlite.Value).Set"], unfollowed := true, recurses := true, named := ["errors.errorType"], apart := false, laid := [("errors.errorType", laid_errors_errorType)] }
def FreshTellsSaid : Prop := freshTellsRow.holds Tryd.pinned (OpenSpec.ofChange freshTellsSpec)

/-- ITS FALSE NEIGHBOUR: 'it returns false'. Refute it at one input. -/
def freshTellsWrong : ChangeSpec := { name := "freshTells", fn := fun _ => fun
  | [d1, d2, d3, d4, d5] => { results := [.lit (.bool false)], args := [d1, d2, d3, d4, d5] }
  | _ => none }
def FreshTellsWrongFalsely : Prop := freshTellsRow.holds Tryd.pinned (OpenSpec.ofChange freshTellsWrong)

/-- 'merelaw1.FreshTrue': WHATEVER THE INPUT: true; the input reads as it did. -/
def freshTrueSpec : ChangeSpec := { name := "freshTrue", fn := fun _ => fun
  | [d1, d2, d3, d4] => { results := [.lit (.bool true)], args := [d1, d2, d3, d4] }
  | _ => none }
def freshTrueRow : OpenClaim := { program := "ytgfbpabffnabaaadoor", sum := "4df0b464e95c2bf023099ccbc905940a1abd3c73dd60a1e73f56eadf4a3c824e", func := "beaconmere/merelaw1.FreshTrue", spec := "freshTrue", inPlace := ["internal/reflectlite.ValueOf", "(internal/reflectlite.Value).Type", "(internal/reflectlite.Value).IsNil", "internal/reflectlite.TypeOf", "(internal/reflectlite.Value).Elem", "(internal/reflectlite.Value).Set"], unfollowed := true, recurses := true, named := ["errors.errorType"], apart := false, laid := [("errors.errorType", laid_errors_errorType)] }
def FreshTrueSaid : Prop := freshTrueRow.holds Tryd.pinned (OpenSpec.ofChange freshTrueSpec)

/-- ITS FALSE NEIGHBOUR: 'it returns false'. Refute it at one input. -/
def freshTrueWrong : ChangeSpec := { name := "freshTrue", fn := fun _ => fun
  | [d1, d2, d3, d4] => { results := [.lit (.bool false)], args := [d1, d2, d3, d4] }
  | _ => none }
def FreshTrueWrongFalsely : Prop := freshTrueRow.holds Tryd.pinned (OpenSpec.ofChange freshTrueWrong)

/-- 'merelaw1.TombTells': WHATEVER THE INPUT: true; the input reads as it did. -/
def tombTellsSpec : ChangeSpec := { name := "tombTells", fn := fun _ => fun
  | [d1, d2, d3, d4] => { results := [.lit (.bool true)], args := [d1, d2, d3, d4] }
  | _ => none }
def tombTellsRow : OpenClaim := { program := "ytgfbpabffnabaaadoor", sum := "4df0b464e95c2bf023099ccbc905940a1abd3c73dd60a1e73f56eadf4a3c824e", func := "beaconmere/merelaw1.TombTells", spec := "tombTells", inPlace := ["internal/reflectlite.ValueOf", "(internal/reflectlite.Value).Type", "(internal/reflectlite.Value).IsNil", "internal/reflectlite.TypeOf", "(internal/reflectlite.Value).Elem", "(internal/reflectlite.Value).Set"], unfollowed := true, recurses := true, named := ["errors.errorType"], apart := false, laid := [("errors.errorType", laid_errors_errorType)] }
def TombTellsSaid : Prop := tombTellsRow.holds Tryd.pinned (OpenSpec.ofChange tombTellsSpec)

/-- ITS FALSE NEIGHBOUR: 'it returns false'. Refute it at one input. -/
def tombTellsWrong : ChangeSpec := { name := "tombTells", fn := fun _ => fun
  | [d1, d2, d3, d4] => { results := [.lit (.bool false)], args := [d1, d2, d3, d4] }
  | _ => none }
def TombTellsWrongFalsely : Prop := tombTellsRow.holds Tryd.pinned (OpenSpec.ofChange tombTellsWrong)

/-- 'merelaw1.CacheTells': WHATEVER THE INPUT: true; the input reads as it did. -/
def cacheTellsSpec : ChangeSpec := { name := "cacheTells", fn := fun _ => fun
  | [d1, d2, d3, d4] => { results := [.lit (.bool true)], args := [d1, d2, d3, d4] }
  | _ => none }
def cacheTellsRow : OpenClaim := { program := "ytgfbpabffnabaaadoor", sum := "4df0b464e95c2bf023099ccbc905940a1abd3c73dd60a1e73f56eadf4a3c824e", func := "beaconmere/merelaw1.CacheTells", spec := "cacheTells", inPlace := ["internal/reflectlite.ValueOf", "(internal/reflectlite.Value).Type", "(internal/reflectlite.Value).IsNil", "internal/reflectlite.TypeOf", "(internal/reflectlite.Value).Elem", "(internal/reflectlite.Value).Set", "slices.overlaps[beaconmere/api.Entry]"], unfollowed := true, recurses := true, named := ["errors.errorType"], apart := false, laid := [("errors.errorType", laid_errors_errorType)] }
def CacheTellsSaid : Prop := cacheTellsRow.holds Tryd.pinned (OpenSpec.ofChange cacheTellsSpec)

/-- ITS FALSE NEIGHBOUR: 'it returns false'. Refute it at one input. -/
def cacheTellsWrong : ChangeSpec := { name := "cacheTells", fn := fun _ => fun
  | [d1, d2, d3, d4] => { results := [.lit (.bool false)], args := [d1, d2, d3, d4] }
  | _ => none }
def CacheTellsWrongFalsely : Prop := cacheTellsRow.holds Tryd.pinned (OpenSpec.ofChange cacheTellsWrong)

/-- 'merelaw2.RepairTells': WHATEVER THE INPUT: true; the input reads as it did. -/
def repairTellsSpec : ChangeSpec := { name := "repairTells", fn := fun _ => fun
  | [d1, d2, d3, d4, d5] => { results := [.lit (.bool true)], args := [d1, d2, d3, d4, d5] }
  | _ => none }
def repairTellsRow : OpenClaim := { program := "ytgfbpabffnabaaadoor", sum := "4df0b464e95c2bf023099ccbc905940a1abd3c73dd60a1e73f56eadf4a3c824e", func := "beaconmere/merelaw2.RepairTells", spec := "repairTells", inPlace := ["internal/reflectlite.ValueOf", "(internal/reflectlite.Value).Type", "(internal/reflectlite.Value).IsNil", "internal/reflectlite.TypeOf", "(internal/reflectlite.Value).Elem", "(internal/reflectlite.Value).Set", "slices.overlaps[beaconmere/api.Entry]"], unfollowed := true, recurses := true, named := ["errors.errorType"], apart := false, laid := [("errors.errorType", laid_errors_errorType)] }
def RepairTellsSaid : Prop := repairTellsRow.holds Tryd.pinned (OpenSpec.ofChange repairTellsSpec)

/-- ITS FALSE NEIGHBOUR: 'it returns false'. Refute it at one input. -/
def repairTellsWrong : ChangeSpec := { name := "repairTells", fn := fun _ => fun
  | [d1, d2, d3, d4, d5] => { results := [.lit (.bool false)], args := [d1, d2, d3, d4, d5] }
  | _ => none }
def RepairTellsWrongFalsely : Prop := repairTellsRow.holds Tryd.pinned (OpenSpec.ofChange repairTellsWrong)

/-- 'merelaw1.TombSafe': WHATEVER THE INPUT: true; the input reads as it did. -/
def tombSafeSpec : ChangeSpec := { name := "tombSafe", fn := fun _ => fun
  | [d1, d2] => { results := [.lit (.bool true)], args := [d1, d2] }
  | _ => none }
def tombSafeRow : OpenClaim := { program := "ytgfbpabffnabaaadoor", sum := "4df0b464e95c2bf023099ccbc905940a1abd3c73dd60a1e73f56eadf4a3c824e", func := "beaconmere/merelaw1.TombSafe", spec := "tombSafe", inPlace := ["internal/reflectlite.ValueOf", "(internal/reflectlite.Value).Type", "(internal/reflectlite.Value).IsNil", "internal/reflectlite.TypeOf", "(internal/reflectlite.Value).Elem", "(internal/reflectlite.Value).Set", "slices.overlaps[beaconmere/api.Entry]"], unfollowed := true, recurses := true, named := ["errors.errorType"], apart := false, laid := [("errors.errorType", laid_errors_errorType)] }
def TombSafeSaid : Prop := tombSafeRow.holds Tryd.pinned (OpenSpec.ofChange tombSafeSpec)

/-- ITS FALSE NEIGHBOUR: 'it returns false'. Refute it at one input. -/
def tombSafeWrong : ChangeSpec := { name := "tombSafe", fn := fun _ => fun
  | [d1, d2] => { results := [.lit (.bool false)], args := [d1, d2] }
  | _ => none }
def TombSafeWrongFalsely : Prop := tombSafeRow.holds Tryd.pinned (OpenSpec.ofChange tombSafeWrong)

/- THE SECOND FORM. 'bulk': how many values and letters a reading holds, each counted each time it is reached (what is shared counts as often as it is met; a slice's spare places count too). A statement '..UptoSaid' is the law's where the arguments, and the package variables that the reading takes, are together of bulk at most 1048576: NARROWER than '..Said'. Prove '..Said' where nothing that the law and all that it calls make is longer than what came in: it says more and counts as full. Else prove '..UptoSaid'. A law counts once. -/
mutual
def uptoBulk {H : Type} : DataW H → Nat
  | .lit (.string bytes) => bytes.length + 1
  | .lit _ => 1
  | .nil => 1
  | .ptr d => uptoBulk d + 1
  | .slice elems spare => uptoBulkAll elems + uptoBulkAll spare + 1
  | .agg parts => uptoBulkAll parts + 1
  | .iface _ d => uptoBulk d + 1
  | .map entries => uptoBulkEntries entries + 1
  | .held _ => 1
def uptoBulkAll {H : Type} : List (DataW H) → Nat
  | [] => 0
  | d :: r => uptoBulk d + uptoBulkAll r
def uptoBulkEntries {H : Type} : List (Lit × DataW H) → Nat
  | [] => 0
  | x :: r => uptoBulkEntry x + uptoBulkEntries r
def uptoBulkEntry {H : Type} : Lit × DataW H → Nat
  | (.string bytes, d) => bytes.length + uptoBulk d + 1
  | (_, d) => uptoBulk d + 1
 end
def uptoSmall : (H : Type) → List (DataW H) → Bool := fun _ ds => decide (uptoBulkAll ds ≤ 1048576)
def OpenSpec.upto (s : _root_.Go.ChangeSpec) : _root_.Go.OpenSpec := { _root_.Go.OpenSpec.ofChange s with cond := some uptoSmall }

/-- 'merelaw1.FreshTells', WHERE WHAT IT READS IS OF BULK AT MOST 1048576: true; the input reads as it did. -/
def freshTellsUptoRow : OpenClaim := { program := "ytgfbpabffnabaaadoor", sum := "4df0b464e95c2bf023099ccbc905940a1abd3c73dd60a1e73f56eadf4a3c824e", func := "beaconmere/merelaw1.FreshTells", spec := "freshTells", inPlace := ["internal/reflectlite.ValueOf", "(internal/reflectlite.Value).Type", "(internal/reflectlite.Value).IsNil", "internal/reflectlite.TypeOf", "(internal/reflectlite.Value).Elem", "(internal/reflectlite.Value).Set"], unfollowed := true, recurses := true, named := ["errors.errorType"], apart := false, laid := [("errors.errorType", laid_errors_errorType)], narrowed := true }
def FreshTellsUptoSaid : Prop := freshTellsUptoRow.holds Tryd.pinned (OpenSpec.upto freshTellsSpec)

/-- 'merelaw1.FreshTrue', WHERE WHAT IT READS IS OF BULK AT MOST 1048576: true; the input reads as it did. -/
def freshTrueUptoRow : OpenClaim := { program := "ytgfbpabffnabaaadoor", sum := "4df0b464e95c2bf023099ccbc905940a1abd3c73dd60a1e73f56eadf4a3c824e", func := "beaconmere/merelaw1.FreshTrue", spec := "freshTrue", inPlace := ["internal/reflectlite.ValueOf", "(internal/reflectlite.Value).Type", "(internal/reflectlite.Value).IsNil", "internal/reflectlite.TypeOf", "(internal/reflectlite.Value).Elem", "(internal/reflectlite.Value).Set"], unfollowed := true, recurses := true, named := ["errors.errorType"], apart := false, laid := [("errors.errorType", laid_errors_errorType)], narrowed := true }
def FreshTrueUptoSaid : Prop := freshTrueUptoRow.holds Tryd.pinned (OpenSpec.upto freshTrueSpec)

/-- 'merelaw1.TombTells', WHERE WHAT IT READS IS OF BULK AT MOST 1048576: true; the input reads as it did. -/
def tombTellsUptoRow : OpenClaim := { program := "ytgfbpabffnabaaadoor", sum := "4df0b464e95c2bf023099ccbc905940a1abd3c73dd60a1e73f56eadf4a3c824e", func := "beaconmere/merelaw1.TombTells", spec := "tombTells", inPlace := ["internal/reflectlite.ValueOf", "(internal/reflectlite.Value).Type", "(internal/reflectlite.Value).IsNil", "internal/reflectlite.TypeOf", "(internal/reflectlite.Value).Elem", "(internal/reflectlite.Value).Set"], unfollowed := true, recurses := true, named := ["errors.errorType"], apart := false, laid := [("errors.errorType", laid_errors_errorType)], narrowed := true }
def TombTellsUptoSaid : Prop := tombTellsUptoRow.holds Tryd.pinned (OpenSpec.upto tombTellsSpec)

/-- 'merelaw1.CacheTells', WHERE WHAT IT READS IS OF BULK AT MOST 1048576: true; the input reads as it did. -/
def cacheTellsUptoRow : OpenClaim := { program := "ytgfbpabffnabaaadoor", sum := "4df0b464e95c2bf023099ccbc905940a1abd3c73dd60a1e73f56eadf4a3c824e", func := "beaconmere/merelaw1.CacheTells", spec := "cacheTells", inPlace := ["internal/reflectlite.ValueOf", "(internal/reflectlite.Value).Type", "(internal/reflectlite.Value).IsNil", "internal/reflectlite.TypeOf", "(internal/reflectlite.Value).Elem", "(internal/reflectlite.Value).Set", "slices.overlaps[beaconmere/api.Entry]"], unfollowed := true, recurses := true, named := ["errors.errorType"], apart := false, laid := [("errors.errorType", laid_errors_errorType)], narrowed := true }
def CacheTellsUptoSaid : Prop := cacheTellsUptoRow.holds Tryd.pinned (OpenSpec.upto cacheTellsSpec)

/-- 'merelaw2.RepairTells', WHERE WHAT IT READS IS OF BULK AT MOST 1048576: true; the input reads as it did. -/
def repairTellsUptoRow : OpenClaim := { program := "ytgfbpabffnabaaadoor", sum := "4df0b464e95c2bf023099ccbc905940a1abd3c73dd60a1e73f56eadf4a3c824e", func := "beaconmere/merelaw2.RepairTells", spec := "repairTells", inPlace := ["internal/reflectlite.ValueOf", "(internal/reflectlite.Value).Type", "(internal/reflectlite.Value).IsNil", "internal/reflectlite.TypeOf", "(internal/reflectlite.Value).Elem", "(internal/reflectlite.Value).Set", "slices.overlaps[beaconmere/api.Entry]"], unfollowed := true, recurses := true, named := ["errors.errorType"], apart := false, laid := [("errors.errorType", laid_errors_errorType)], narrowed := true }
def RepairTellsUptoSaid : Prop := repairTellsUptoRow.holds Tryd.pinned (OpenSpec.upto repairTellsSpec)

/-- 'merelaw1.TombSafe', WHERE WHAT IT READS IS OF BULK AT MOST 1048576: true; the input reads as it did. -/
def tombSafeUptoRow : OpenClaim := { program := "ytgfbpabffnabaaadoor", sum := "4df0b464e95c2bf023099ccbc905940a1abd3c73dd60a1e73f56eadf4a3c824e", func := "beaconmere/merelaw1.TombSafe", spec := "tombSafe", inPlace := ["internal/reflectlite.ValueOf", "(internal/reflectlite.Value).Type", "(internal/reflectlite.Value).IsNil", "internal/reflectlite.TypeOf", "(internal/reflectlite.Value).Elem", "(internal/reflectlite.Value).Set", "slices.overlaps[beaconmere/api.Entry]"], unfollowed := true, recurses := true, named := ["errors.errorType"], apart := false, laid := [("errors.errorType", laid_errors_errorType)], narrowed := true }
def TombSafeUptoSaid : Prop := tombSafeUptoRow.holds Tryd.pinned (OpenSpec.upto tombSafeSpec)

end Rows
end Go.Proofs.YtgfbpabffnabaaaDoor
