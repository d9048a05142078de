/-
  CONTRACTS OF LIBRARY FUNCTIONS LAID AT THIS SEAT's PROGRAM: written by the kit's own tool (lay-plain.mjs), its remarks struck. It proves no statement by itself. CONDITIONS: each contract's own hypotheses.
-/
import Derived.Shelf.SlSortCmp.InsertionK
import Derived.Test.YtgamocljdbffpaaDoorProg
namespace Go.Proofs
open Go.Shelf
def Tryd.sortU_ren : Go.Shelf.Ren := ⟨fun | 20 => 78 | n => n, fun | 24 => 98 | 22 => 68 | 3 => 3 | 25 => 107 | 4 => 4 | 0 => 0 | n => n, fun | n => n⟩
theorem Tryd.sortU : Go.Proofs.SlLaysF0.n20 Tryd.prog Tryd.sortU_ren := {
  mixed := by kernel_rfl
  f20 := ⟨Tryd.f78.name, by decide, Tryd.func78.trans (congrArg some (by kernel_rfl))⟩
  t0 := Tryd.underlying0
  a0 := Tryd.isAgg0
  z0 := Tryd.sizeOf0
  v0 := Tryd.zeroValue0
  t3 := Tryd.underlying3
  a3 := Tryd.isAgg3
  z3 := Tryd.sizeOf3
  v3 := Tryd.zeroValue3
  t4 := Tryd.underlying4
  a4 := Tryd.isAgg4
  z4 := Tryd.sizeOf4
  v4 := Tryd.zeroValue4
  t22 := Tryd.underlying68
  a22 := Tryd.isAgg68
  z22 := Tryd.sizeOf68
  v22 := Tryd.zeroValue68
  t25 := Tryd.underlying107
  a25 := Tryd.isAgg107
  z25 := Tryd.sizeOf107
  v25 := Tryd.zeroValue107 }
end Go.Proofs
