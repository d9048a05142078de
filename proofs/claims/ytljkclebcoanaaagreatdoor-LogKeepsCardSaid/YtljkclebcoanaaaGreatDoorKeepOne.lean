/-
  THE ONE FACT of merelaw3.LogKeeps (PLAIN): a put, a sync, a put, a crash that keeps nothing: the first put alone is left.
-/
import Derived.Test.YtljkclebcoanaaaGreatDoorKeepLaw
namespace Go.Proofs.YtljkclebcoanaaaGreatDoor
open Go Go.RowKit

def oneA : LG := (LG.new.put 3 ⟨#[120]⟩).2
def oneB : LG := oneA.sync.2
def oneC : LG := (oneB.put 3 ⟨#[121]⟩).2
def oneD : LG := oneC.crash 0
theorem one_put : LG.new.put 3 ⟨#[120]⟩ = ((1, 0), oneA) := by kernel_rfl
theorem one_sync : oneA.sync = (0, oneB) := by kernel_rfl
theorem one_put2 : oneB.put 3 ⟨#[121]⟩ = ((2, 0), oneC) := by kernel_rfl
theorem one_D : oneD.D = [⟨3, 0, 0, false, ⟨#[120]⟩⟩] := by kernel_rfl
theorem one_read : ratS oneD.D 3 oneD.D.length = (⟨3, 1, 1, false, ⟨#[120]⟩⟩, 0) := by kernel_rfl
theorem one_len : oneD.bs.length = oneD.safe := rfl
end Go.Proofs.YtljkclebcoanaaaGreatDoor
