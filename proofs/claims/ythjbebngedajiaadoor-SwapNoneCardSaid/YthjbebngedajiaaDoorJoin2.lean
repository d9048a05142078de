/-
  CONTRACTS of entry.checks, entry.Join, entry.True. CONDITIONS: none.
-/
import Derived.Test.YthjbebngedajiaaDoorJoin
namespace Go.Proofs.YthjbebngedajiaaDoor
open Go.RowKit
open Go.ChangeShapes Go.WideShapes Go.ChangeAt

def chk2 (a b : E) : Int := if chk a = 0 then chk b else chk a

end Go.Proofs.YthjbebngedajiaaDoor
