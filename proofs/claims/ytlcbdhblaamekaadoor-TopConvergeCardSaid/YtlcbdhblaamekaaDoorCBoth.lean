/-
  CONTRACT of cache.Both, and what is got by it. CONDITIONS: none.
-/
import Derived.Test.YtlcbdhblaamekaaDoorCAll
import Derived.Test.YtlcbdhblaamekaaDoorCGet
namespace Go.Proofs.YtlcbdhblaamekaaDoor
open Go.RowKit
open Go.ChangeShapes Go.WideShapes Go.ChangeAt

theorem getR_lk {l : List E} {k : Int} (hl : chkC l = 0) (hk : keyB k = true) : getR l k = match lk l k with | some e => (e, 0) | none => (E.zero, 5) := by
  rw [getR, if_pos hl, if_pos hk, at_lk (val_iff.1 hl).1]
  split <;> rfl

end Go.Proofs.YtlcbdhblaamekaaDoor
