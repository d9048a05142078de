/-
  CLOSED FACTS of this seat's program, and the codec of api.Entry. CONDITIONS: none.
-/
import Derived.Test.YtogngpppejlmmaaDoorEntry
namespace Go.Proofs.YtogngpppejlmmaaDoor
open Go.RowKit
open Go.ChangeShapes Go.WideShapes Go.ChangeAt

theorem Tryd.own : ownKnob Tryd.prog.godebug = none := by kernel_rfl
theorem Tryd.laidOut : laidOutB Tryd.prog = true := by kernel_rfl
theorem Tryd.cellsInt : Tryd.prog.cellsOf 3 = 1 := by kernel_rfl
theorem Tryd.cellsBool : Tryd.prog.cellsOf 4 = 1 := by kernel_rfl
theorem Tryd.cellsStr : Tryd.prog.cellsOf 9 = 1 := by kernel_rfl

/-- what is known of an entry that came in -/
def E.good (e : E) : Prop := (-9223372036854775808 ≤ e.key ∧ e.key ≤ 9223372036854775807) ∧ (-9223372036854775808 ≤ e.ver ∧ e.ver ≤ 9223372036854775807) ∧ (-9223372036854775808 ≤ e.asof ∧ e.asof ≤ 9223372036854775807) ∧ e.text.size ≤ maxLen
end Go.Proofs.YtogngpppejlmmaaDoor
