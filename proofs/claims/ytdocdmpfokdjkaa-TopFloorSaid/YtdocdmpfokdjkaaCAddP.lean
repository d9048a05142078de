/-
  WHAT cache.Added DOES, in plain. CONDITIONS: none.
-/
import Derived.Test.YtdocdmpfokdjkaaCCheck
namespace Go.Proofs.Ytdocdmpfokdjkaa
open Go.RowKit
open Go.ChangeShapes Go.WideShapes Go.ChangeAt

/-- an entry added to a cache: what is there, and the fault -/
def addC (l : List E) (e : E) : List E × Int :=
  if hasK e.key l = true then (if (joined (l.getD (plc e.key l) E.zero) e).2 = 0 then (l.set (plc e.key l) (joined (l.getD (plc e.key l) E.zero) e).1, 0) else ([], (joined (l.getD (plc e.key l) E.zero) e).2))
  else (l.take (plc e.key l) ++ e :: l.drop (plc e.key l), 0)
theorem plc_le (k : Int) : ∀ l : List E, plc k l ≤ l.length
  | [] => Nat.le_refl _
  | e :: r => by
    have := plc_le k r
    rw [plc]
    split <;> simp <;> omega
end Go.Proofs.Ytdocdmpfokdjkaa
