/-
  No cell of these rows narrows 'for every input' (looked for: loops, veiled, ifaces, maps, wideKeys, modest, calm, conditions, laid).
  DERIVED. THE GIVEN ROWS OF THIS SEAT. 3 by the template 'for every input the law returns true; each argument reads behind the call as it read before'; 0 by the template 'total and deterministic' (their statements: YtdocdmpfokdjkaaTotals.lean).
  GIVEN WITH THE SEED: the statements are not yours to turn. If you find one false, say at which input.
  Laid BY PROGRAM, IN A SANDBOX (cutbox-rows.mjs): the forced cells as the released guide's own fill.sh prints them over the translation 6085d00eef8f3d2f… (all of the seat's roots in one cut). By AI agents, Wed Nov 11 2026. No macro, syntax, notation, axiom, sorry.
-/
import Derived.Test.YtdocdmpfokdjkaaChecked
import GoSem.Claim
import GoSem.ClaimJoined
import GoSem.ClaimMapViews
import Derived.JoinedTies
import Derived.KernelRfl
namespace Go.Proofs.Ytdocdmpfokdjkaa
/- THE CELL 'sum', in the pinned program and in every row, IS THE sha256 OF THE DUMP (.gsa) THAT YtdocdmpfokdjkaaProg.lean LOADS. Nothing in Lean hashes anything: it is a label: what it is worth is what the hold of that sum in a sandbox is worth. -/
noncomputable def Try.pinned : Pinned := { name := "ytdocdmpfokdjkaa", sum := "6085d00eef8f3d2f9996ac925588287c28d2fc2f6372912fb7e08f99762ffafb", checked := Try.checked }
namespace Rows
def none {H : Type} : Left H := { results := [], args := [] }

/-- 'merelaw2.GossipNeeds': WHATEVER THE INPUT: true; the input reads as it did. -/
def gossipNeedsSpec : ChangeSpec := { name := "gossipNeeds", fn := fun _ => fun
  | [d1, d2, d3] => { results := [.lit (.bool true)], args := [d1, d2, d3] }
  | _ => none }
def gossipNeedsRow : OpenClaim := { program := "ytdocdmpfokdjkaa", sum := "6085d00eef8f3d2f9996ac925588287c28d2fc2f6372912fb7e08f99762ffafb", func := "beaconmere/merelaw2.GossipNeeds", spec := "gossipNeeds", unfollowed := true, recurses := true, apart := false }
def GossipNeedsSaid : Prop := gossipNeedsRow.holds Try.pinned (OpenSpec.ofChange gossipNeedsSpec)

/-- ITS FALSE NEIGHBOUR: 'it returns false'. Refute it at one input. -/
def gossipNeedsWrong : ChangeSpec := { name := "gossipNeeds", fn := fun _ => fun
  | [d1, d2, d3] => { results := [.lit (.bool false)], args := [d1, d2, d3] }
  | _ => none }
def GossipNeedsWrongFalsely : Prop := gossipNeedsRow.holds Try.pinned (OpenSpec.ofChange gossipNeedsWrong)

/-- 'meretop.TopFloor': WHATEVER THE INPUT: true; the input reads as it did. -/
def topFloorSpec : ChangeSpec := { name := "topFloor", fn := fun _ => fun
  | [d1, d2, d3, d4] => { results := [.lit (.bool true)], args := [d1, d2, d3, d4] }
  | _ => none }
def topFloorRow : OpenClaim := { program := "ytdocdmpfokdjkaa", sum := "6085d00eef8f3d2f9996ac925588287c28d2fc2f6372912fb7e08f99762ffafb", func := "beaconmere/meretop.TopFloor", spec := "topFloor", inPlace := ["slices.overlaps[beaconmere/api.Entry]"], unfollowed := true, recurses := true, apart := false }
def TopFloorSaid : Prop := topFloorRow.holds Try.pinned (OpenSpec.ofChange topFloorSpec)

/-- ITS FALSE NEIGHBOUR: 'it returns false'. Refute it at one input. -/
def topFloorWrong : ChangeSpec := { name := "topFloor", fn := fun _ => fun
  | [d1, d2, d3, d4] => { results := [.lit (.bool false)], args := [d1, d2, d3, d4] }
  | _ => none }
def TopFloorWrongFalsely : Prop := topFloorRow.holds Try.pinned (OpenSpec.ofChange topFloorWrong)

/-- 'merelaw2.RepairAll': WHATEVER THE INPUT: true; the input reads as it did. -/
def repairAllSpec : ChangeSpec := { name := "repairAll", fn := fun _ => fun
  | [d1, d2, d3, d4, d5] => { results := [.lit (.bool true)], args := [d1, d2, d3, d4, d5] }
  | _ => none }
def repairAllRow : OpenClaim := { program := "ytdocdmpfokdjkaa", sum := "6085d00eef8f3d2f9996ac925588287c28d2fc2f6372912fb7e08f99762ffafb", func := "beaconmere/merelaw2.RepairAll", spec := "repairAll", inPlace := ["slices.overlaps[beaconmere/api.Entry]"], unfollowed := true, recurses := true, apart := false }
def RepairAllSaid : Prop := repairAllRow.holds Try.pinned (OpenSpec.ofChange repairAllSpec)

/-- ITS FALSE NEIGHBOUR: 'it returns false'. Refute it at one input. -/
def repairAllWrong : ChangeSpec := { name := "repairAll", fn := fun _ => fun
  | [d1, d2, d3, d4, d5] => { results := [.lit (.bool false)], args := [d1, d2, d3, d4, d5] }
  | _ => none }
def RepairAllWrongFalsely : Prop := repairAllRow.holds Try.pinned (OpenSpec.ofChange repairAllWrong)

/- THE SECOND FORM. 'bulk': how many values and letters a reading holds, each counted each time it is reached (what is shared counts as often as it is met; a slice's spare places count too). A statement '..UptoSaid' is the law's where the arguments, and the package variables that the reading takes, are together of bulk at most 1048576: NARROWER than '..Said'. Prove '..Said' where nothing that the law and all that it calls make is longer than what came in: it says more and counts as full. Else prove '..UptoSaid'. A law counts once. -/
mutual
def uptoBulk {H : Type} : DataW H → Nat
  | .lit (.string bytes) => bytes.length + 1
  | .lit _ => 1
  | .nil => 1
  | .ptr d => uptoBulk d + 1
  | .slice elems spare => uptoBulkAll elems + uptoBulkAll spare + 1
  | .agg parts => uptoBulkAll parts + 1
  | .iface _ d => uptoBulk d + 1
  | .map entries => uptoBulkEntries entries + 1
  | .held _ => 1
def uptoBulkAll {H : Type} : List (DataW H) → Nat
  | [] => 0
  | d :: r => uptoBulk d + uptoBulkAll r
def uptoBulkEntries {H : Type} : List (Lit × DataW H) → Nat
  | [] => 0
  | x :: r => uptoBulkEntry x + uptoBulkEntries r
def uptoBulkEntry {H : Type} : Lit × DataW H → Nat
  | (.string bytes, d) => bytes.length + uptoBulk d + 1
  | (_, d) => uptoBulk d + 1
 end
def uptoSmall : (H : Type) → List (DataW H) → Bool := fun _ ds => decide (uptoBulkAll ds ≤ 1048576)
def OpenSpec.upto (s : _root_.Go.ChangeSpec) : _root_.Go.OpenSpec := { _root_.Go.OpenSpec.ofChange s with cond := some uptoSmall }

/-- 'merelaw2.GossipNeeds', WHERE WHAT IT READS IS OF BULK AT MOST 1048576: true; the input reads as it did. -/
def gossipNeedsUptoRow : OpenClaim := { program := "ytdocdmpfokdjkaa", sum := "6085d00eef8f3d2f9996ac925588287c28d2fc2f6372912fb7e08f99762ffafb", func := "beaconmere/merelaw2.GossipNeeds", spec := "gossipNeeds", unfollowed := true, recurses := true, apart := false, narrowed := true }
def GossipNeedsUptoSaid : Prop := gossipNeedsUptoRow.holds Try.pinned (OpenSpec.upto gossipNeedsSpec)

/-- 'meretop.TopFloor', WHERE WHAT IT READS IS OF BULK AT MOST 1048576: true; the input reads as it did. -/
def topFloorUptoRow : OpenClaim := { program := "ytdocdmpfokdjkaa", sum := "6085d00eef8f3d2f9996ac925588287c28d2fc2f6372912fb7e08f99762ffafb", func := "beaconmere/meretop.TopFloor", spec := "topFloor", inPlace := ["slices.overlaps[beaconmere/api.Entry]"], unfollowed := true, recurses := true, apart := false, narrowed := true }
def TopFloorUptoSaid : Prop := topFloorUptoRow.holds Try.pinned (OpenSpec.upto topFloorSpec)

/-- 'merelaw2.RepairAll', WHERE WHAT IT READS IS OF BULK AT MOST 1048576: true; the input reads as it did. -/
def repairAllUptoRow : OpenClaim := { program := "ytdocdmpfokdjkaa", sum := "6085d00eef8f3d2f9996ac925588287c28d2fc2f6372912fb7e08f99762ffafb", func := "beaconmere/merelaw2.RepairAll", spec := "repairAll", inPlace := ["slices.overlaps[beaconmere/api.Entry]"], unfollowed := true, recurses := true, apart := false, narrowed := true }
def RepairAllUptoSaid : Prop := repairAllUptoRow.holds Try.pinned (OpenSpec.upto repairAllSpec)

end Rows
end Go.Proofs.Ytdocdmpfokdjkaa
