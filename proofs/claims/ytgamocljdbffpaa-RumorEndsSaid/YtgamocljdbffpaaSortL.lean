/-
  CONTRACTS OF LIBRARY FUNCTIONS LAID AT THIS SEAT's PROGRAM: written by the kit's own tool (lay-plain.mjs), its remarks struck. It proves no statement by itself. CONDITIONS: each contract's own hypotheses.
-/
import Derived.Shelf.SlSortCmp.InsertionK
import Derived.Test.YtgamocljdbffpaaProg
namespace Go.Proofs
open Go.Shelf
def Try.sortU_ren : Go.Shelf.Ren := ⟨fun | 20 => 29 | n => n, fun | 24 => 39 | 22 => 24 | 3 => 3 | 25 => 51 | 4 => 4 | 0 => 0 | n => n, fun | n => n⟩
theorem Try.sortU : Go.Proofs.SlLaysF0.n20 Try.prog Try.sortU_ren := {
  mixed := by kernel_rfl
  f20 := ⟨Try.f29.name, by decide, Try.func29.trans (congrArg some (by kernel_rfl))⟩
  t0 := Try.underlying0
  a0 := Try.isAgg0
  z0 := Try.sizeOf0
  v0 := Try.zeroValue0
  t3 := Try.underlying3
  a3 := Try.isAgg3
  z3 := Try.sizeOf3
  v3 := Try.zeroValue3
  t4 := Try.underlying4
  a4 := Try.isAgg4
  z4 := Try.sizeOf4
  v4 := Try.zeroValue4
  t22 := Try.underlying24
  a22 := Try.isAgg24
  z22 := Try.sizeOf24
  v22 := Try.zeroValue24
  t25 := Try.underlying51
  a25 := Try.isAgg51
  z25 := Try.sizeOf51
  v25 := Try.zeroValue51 }
end Go.Proofs
