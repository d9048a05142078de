/-
  CONTRACTS of entry.Join. CONDITIONS: none.
-/
import Derived.Test.YthjbebngedajiaaDoorJoin2
namespace Go.Proofs.YthjbebngedajiaaDoor
open Go.RowKit
open Go.ChangeShapes Go.WideShapes Go.ChangeAt

def joinR (a b : E) : E × Int := if chk2 a b = 0 then (if a.key = b.key then joined a b else (E.zero, 3)) else (E.zero, chk2 a b)

end Go.Proofs.YthjbebngedajiaaDoor
