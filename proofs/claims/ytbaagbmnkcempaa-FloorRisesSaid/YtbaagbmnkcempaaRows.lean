/-
  No cell of these rows narrows 'for every input' (looked for: loops, veiled, ifaces, maps, wideKeys, modest, calm, conditions, laid).
  DERIVED. THE GIVEN ROWS OF THIS SEAT. 5 by the template 'for every input the law returns true; each argument reads behind the call as it read before'; 0 by the template 'total and deterministic' (their statements: YtbaagbmnkcempaaTotals.lean).
  GIVEN WITH THE SEED: the statements are not yours to turn. If you find one false, say at which input.
  Laid BY PROGRAM, IN A SANDBOX (cutbox-rows.mjs): the forced cells as the released guide's own fill.sh prints them over the translation 26ad6cf13d54eafa… (all of the seat's roots in one cut). By AI agents, Wed Nov 11 2026. No macro, syntax, notation, axiom, sorry.
-/
import Derived.Test.YtbaagbmnkcempaaChecked
import GoSem.Claim
import GoSem.ClaimJoined
import GoSem.ClaimMapViews
import Derived.JoinedTies
import Derived.KernelRfl
namespace Go.Proofs.Ytbaagbmnkcempaa
/- THE CELL 'sum', in the pinned program and in every row, IS THE sha256 OF THE DUMP (.gsa) THAT YtbaagbmnkcempaaProg.lean LOADS. Nothing in Lean hashes anything: it is a label: what it is worth is what the hold of that sum in a sandbox is worth. -/
noncomputable def Try.pinned : Pinned := { name := "ytbaagbmnkcempaa", sum := "26ad6cf13d54eafa552cfae6d351e338218ec5f13637667fe5e4ea8681fb7d4f", checked := Try.checked }
namespace Rows
def none {H : Type} : Left H := { results := [], args := [] }

/-- 'merelaw1.Names': WHATEVER THE INPUT: true; the input reads as it did. -/
def namesSpec : ChangeSpec := { name := "names", fn := fun _ => fun
  | [] => { results := [.lit (.bool true)], args := [] }
  | _ => none }
def namesRow : OpenClaim := { program := "ytbaagbmnkcempaa", sum := "26ad6cf13d54eafa552cfae6d351e338218ec5f13637667fe5e4ea8681fb7d4f", func := "beaconmere/merelaw1.Names", spec := "names", apart := false }
def NamesSaid : Prop := namesRow.holds Try.pinned (OpenSpec.ofChange namesSpec)

/-- ITS FALSE NEIGHBOUR: 'it returns false'. Refute it at one input. -/
def namesWrong : ChangeSpec := { name := "names", fn := fun _ => fun
  | [] => { results := [.lit (.bool false)], args := [] }
  | _ => none }
def NamesWrongFalsely : Prop := namesRow.holds Try.pinned (OpenSpec.ofChange namesWrong)

/-- 'merelaw1.FloorRises': WHATEVER THE INPUT: true; the input reads as it did. -/
def floorRisesSpec : ChangeSpec := { name := "floorRises", fn := fun _ => fun
  | [d1, d2] => { results := [.lit (.bool true)], args := [d1, d2] }
  | _ => none }
def floorRisesRow : OpenClaim := { program := "ytbaagbmnkcempaa", sum := "26ad6cf13d54eafa552cfae6d351e338218ec5f13637667fe5e4ea8681fb7d4f", func := "beaconmere/merelaw1.FloorRises", spec := "floorRises", apart := false }
def FloorRisesSaid : Prop := floorRisesRow.holds Try.pinned (OpenSpec.ofChange floorRisesSpec)

/-- ITS FALSE NEIGHBOUR: 'it returns false'. Refute it at one input. -/
def floorRisesWrong : ChangeSpec := { name := "floorRises", fn := fun _ => fun
  | [d1, d2] => { results := [.lit (.bool false)], args := [d1, d2] }
  | _ => none }
def FloorRisesWrongFalsely : Prop := floorRisesRow.holds Try.pinned (OpenSpec.ofChange floorRisesWrong)

/-- 'merelaw4.FloorFirst': WHATEVER THE INPUT: true; the input reads as it did. -/
def floorFirstSpec : ChangeSpec := { name := "floorFirst", fn := fun _ => fun
  | [d1, d2] => { results := [.lit (.bool true)], args := [d1, d2] }
  | _ => none }
def floorFirstRow : OpenClaim := { program := "ytbaagbmnkcempaa", sum := "26ad6cf13d54eafa552cfae6d351e338218ec5f13637667fe5e4ea8681fb7d4f", func := "beaconmere/merelaw4.FloorFirst", spec := "floorFirst", apart := false }
def FloorFirstSaid : Prop := floorFirstRow.holds Try.pinned (OpenSpec.ofChange floorFirstSpec)

/-- ITS FALSE NEIGHBOUR: 'it returns false'. Refute it at one input. -/
def floorFirstWrong : ChangeSpec := { name := "floorFirst", fn := fun _ => fun
  | [d1, d2] => { results := [.lit (.bool false)], args := [d1, d2] }
  | _ => none }
def FloorFirstWrongFalsely : Prop := floorFirstRow.holds Try.pinned (OpenSpec.ofChange floorFirstWrong)

/-- 'merelaw1.EntryJoins': WHATEVER THE INPUT: true; the input reads as it did. -/
def entryJoinsSpec : ChangeSpec := { name := "entryJoins", fn := fun _ => fun
  | [d1, d2, d3] => { results := [.lit (.bool true)], args := [d1, d2, d3] }
  | _ => none }
def entryJoinsRow : OpenClaim := { program := "ytbaagbmnkcempaa", sum := "26ad6cf13d54eafa552cfae6d351e338218ec5f13637667fe5e4ea8681fb7d4f", func := "beaconmere/merelaw1.EntryJoins", spec := "entryJoins", apart := false }
def EntryJoinsSaid : Prop := entryJoinsRow.holds Try.pinned (OpenSpec.ofChange entryJoinsSpec)

/-- ITS FALSE NEIGHBOUR: 'it returns false'. Refute it at one input. -/
def entryJoinsWrong : ChangeSpec := { name := "entryJoins", fn := fun _ => fun
  | [d1, d2, d3] => { results := [.lit (.bool false)], args := [d1, d2, d3] }
  | _ => none }
def EntryJoinsWrongFalsely : Prop := entryJoinsRow.holds Try.pinned (OpenSpec.ofChange entryJoinsWrong)

/-- 'merelaw4.EntrySelf': WHATEVER THE INPUT: true; the input reads as it did. -/
def entrySelfSpec : ChangeSpec := { name := "entrySelf", fn := fun _ => fun
  | [d] => { results := [.lit (.bool true)], args := [d] }
  | _ => none }
def entrySelfRow : OpenClaim := { program := "ytbaagbmnkcempaa", sum := "26ad6cf13d54eafa552cfae6d351e338218ec5f13637667fe5e4ea8681fb7d4f", func := "beaconmere/merelaw4.EntrySelf", spec := "entrySelf", apart := false }
def EntrySelfSaid : Prop := entrySelfRow.holds Try.pinned (OpenSpec.ofChange entrySelfSpec)

/-- ITS FALSE NEIGHBOUR: 'it returns false'. Refute it at one input. -/
def entrySelfWrong : ChangeSpec := { name := "entrySelf", fn := fun _ => fun
  | [d] => { results := [.lit (.bool false)], args := [d] }
  | _ => none }
def EntrySelfWrongFalsely : Prop := entrySelfRow.holds Try.pinned (OpenSpec.ofChange entrySelfWrong)

/- THE SECOND FORM. 'bulk': how many values and letters a reading holds, each counted each time it is reached (what is shared counts as often as it is met; a slice's spare places count too). A statement '..UptoSaid' is the law's where the arguments, and the package variables that the reading takes, are together of bulk at most 1048576: NARROWER than '..Said'. Prove '..Said' where nothing that the law and all that it calls make is longer than what came in: it says more and counts as full. Else prove '..UptoSaid'. A law counts once. -/
mutual
def uptoBulk {H : Type} : DataW H → Nat
  | .lit (.string bytes) => bytes.length + 1
  | .lit _ => 1
  | .nil => 1
  | .ptr d => uptoBulk d + 1
  | .slice elems spare => uptoBulkAll elems + uptoBulkAll spare + 1
  | .agg parts => uptoBulkAll parts + 1
  | .iface _ d => uptoBulk d + 1
  | .map entries => uptoBulkEntries entries + 1
  | .held _ => 1
def uptoBulkAll {H : Type} : List (DataW H) → Nat
  | [] => 0
  | d :: r => uptoBulk d + uptoBulkAll r
def uptoBulkEntries {H : Type} : List (Lit × DataW H) → Nat
  | [] => 0
  | x :: r => uptoBulkEntry x + uptoBulkEntries r
def uptoBulkEntry {H : Type} : Lit × DataW H → Nat
  | (.string bytes, d) => bytes.length + uptoBulk d + 1
  | (_, d) => uptoBulk d + 1
 end
def uptoSmall : (H : Type) → List (DataW H) → Bool := fun _ ds => decide (uptoBulkAll ds ≤ 1048576)
def OpenSpec.upto (s : _root_.Go.ChangeSpec) : _root_.Go.OpenSpec := { _root_.Go.OpenSpec.ofChange s with cond := some uptoSmall }

/-- 'merelaw1.Names', WHERE WHAT IT READS IS OF BULK AT MOST 1048576: true; the input reads as it did. -/
def namesUptoRow : OpenClaim := { program := "ytbaagbmnkcempaa", sum := "26ad6cf13d54eafa552cfae6d351e338218ec5f13637667fe5e4ea8681fb7d4f", func := "beaconmere/merelaw1.Names", spec := "names", apart := false, narrowed := true }
def NamesUptoSaid : Prop := namesUptoRow.holds Try.pinned (OpenSpec.upto namesSpec)

/-- 'merelaw1.FloorRises', WHERE WHAT IT READS IS OF BULK AT MOST 1048576: true; the input reads as it did. -/
def floorRisesUptoRow : OpenClaim := { program := "ytbaagbmnkcempaa", sum := "26ad6cf13d54eafa552cfae6d351e338218ec5f13637667fe5e4ea8681fb7d4f", func := "beaconmere/merelaw1.FloorRises", spec := "floorRises", apart := false, narrowed := true }
def FloorRisesUptoSaid : Prop := floorRisesUptoRow.holds Try.pinned (OpenSpec.upto floorRisesSpec)

/-- 'merelaw4.FloorFirst', WHERE WHAT IT READS IS OF BULK AT MOST 1048576: true; the input reads as it did. -/
def floorFirstUptoRow : OpenClaim := { program := "ytbaagbmnkcempaa", sum := "26ad6cf13d54eafa552cfae6d351e338218ec5f13637667fe5e4ea8681fb7d4f", func := "beaconmere/merelaw4.FloorFirst", spec := "floorFirst", apart := false, narrowed := true }
def FloorFirstUptoSaid : Prop := floorFirstUptoRow.holds Try.pinned (OpenSpec.upto floorFirstSpec)

/-- 'merelaw1.EntryJoins', WHERE WHAT IT READS IS OF BULK AT MOST 1048576: true; the input reads as it did. -/
def entryJoinsUptoRow : OpenClaim := { program := "ytbaagbmnkcempaa", sum := "26ad6cf13d54eafa552cfae6d351e338218ec5f13637667fe5e4ea8681fb7d4f", func := "beaconmere/merelaw1.EntryJoins", spec := "entryJoins", apart := false, narrowed := true }
def EntryJoinsUptoSaid : Prop := entryJoinsUptoRow.holds Try.pinned (OpenSpec.upto entryJoinsSpec)

/-- 'merelaw4.EntrySelf', WHERE WHAT IT READS IS OF BULK AT MOST 1048576: true; the input reads as it did. -/
def entrySelfUptoRow : OpenClaim := { program := "ytbaagbmnkcempaa", sum := "26ad6cf13d54eafa552cfae6d351e338218ec5f13637667fe5e4ea8681fb7d4f", func := "beaconmere/merelaw4.EntrySelf", spec := "entrySelf", apart := false, narrowed := true }
def EntrySelfUptoSaid : Prop := entrySelfUptoRow.holds Try.pinned (OpenSpec.upto entrySelfSpec)

end Rows
end Go.Proofs.Ytbaagbmnkcempaa
