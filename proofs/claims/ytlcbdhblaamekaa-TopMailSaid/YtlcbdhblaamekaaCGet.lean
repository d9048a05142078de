/-
  CONTRACTS: cache.Get, fresh.Stale, fresh.Get. CONDITIONS: none.
-/
import Derived.Test.YtlcbdhblaamekaaCCheck
import Derived.Deep.AppendLies
import Derived.Maps.AppendAt
namespace Go.Proofs.Ytlcbdhblaamekaa
open Go.RowKit
open Go.ChangeShapes Go.WideShapes Go.ChangeAt

def getR (l : List E) (k : Int) : E × Int :=
  if chkC l = 0 then (if keyB k = true then (if hasK k l = true then (l.getD (plc k l) E.zero, 0) else (E.zero, 5)) else (E.zero, 1)) else (E.zero, chkC l)

end Go.Proofs.Ytlcbdhblaamekaa
