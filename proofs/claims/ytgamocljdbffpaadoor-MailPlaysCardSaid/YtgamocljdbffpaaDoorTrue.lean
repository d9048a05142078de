/-
  CONTRACT of entry.True. CONDITIONS: none.
-/
import Derived.Test.YtgamocljdbffpaaDoorJoin
namespace Go.Proofs.YtgamocljdbffpaaDoor
open Go.RowKit
open Go.ChangeShapes Go.WideShapes Go.ChangeAt

def trueR (e : E) (n : Int) : Bool × Int := if chk e = 0 then (if seqB n = true then (decide (e.ver ≤ n) && decide (n ≤ e.asof), 0) else (false, 1)) else (false, chk e)

end Go.Proofs.YtgamocljdbffpaaDoor
