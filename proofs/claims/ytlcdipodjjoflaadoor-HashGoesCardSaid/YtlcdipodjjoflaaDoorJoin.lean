/-
  CONTRACTS of entry.Joined, entry.checks, entry.Join, entry.True. CONDITIONS: none.
-/
import Derived.Test.YtlcdipodjjoflaaDoorCheck
namespace Go.Proofs.YtlcdipodjjoflaaDoor
open Go.RowKit
open Go.ChangeShapes Go.WideShapes Go.ChangeAt

def E.val (e : E) : Value := .agg #[.int .i64 e.key, .int .i64 e.ver, .int .i64 e.asof, .bool e.gone, .string e.text]
def E.zero : E := ⟨0, 0, 0, false, ⟨#[]⟩⟩

def joinIn (p q : E) : E × Int :=
  if p.ver = q.ver then
    if (!(p.gone == q.gone) || !(p.text.toList == q.text.toList)) = true then (E.zero, 7) else ({ q with asof := max p.asof q.asof }, 0)
  else if q.ver ≤ p.asof then (E.zero, 7) else (q, 0)
def joined (a b : E) : E × Int := if b.ver < a.ver then joinIn b a else joinIn a b

end Go.Proofs.YtlcdipodjjoflaaDoor
