/-
  THE CONTRACT of log's Crash. CONDITIONS: the library's tables read as they are laid (TvB).
-/
import Derived.Test.YtljkclebcoanaaaDoorLogB
namespace Go.Proofs.YtljkclebcoanaaaDoor
open Go.RowKit
open Go.ChangeShapes Go.WideShapes Go.ChangeAt

end Go.Proofs.YtljkclebcoanaaaDoor
