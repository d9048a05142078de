/-
  CONTRACT of entry.Check. CONDITIONS: none.
  CONTRACTS of entry.Joined, entry.checks, entry.Join, entry.True. CONDITIONS: none.
  CONTRACTS of entry.checks, entry.Join, entry.True. CONDITIONS: none.
  CONTRACTS of entry.Join. CONDITIONS: none.
-/
import Derived.Test.YtljkclebcoanaaaGreatDoorEntry
namespace Go.Proofs.YtljkclebcoanaaaGreatDoor
open Go.RowKit
open Go.ChangeShapes Go.WideShapes Go.ChangeAt

def chk (e : E) : Int :=
  if (!keyB e.key || !seqB e.ver || !seqB e.asof || decide (e.asof < e.ver)) = true then 1
  else if (12 : Int) < (e.text.size : Int) then 4
  else if (e.gone && !e.text.toList.isEmpty) = true then 3
  else 0

end Go.Proofs.YtljkclebcoanaaaGreatDoor
namespace Go.Proofs.YtljkclebcoanaaaGreatDoor
open Go.RowKit
open Go.ChangeShapes Go.WideShapes Go.ChangeAt

def E.val (e : E) : Value := .agg #[.int .i64 e.key, .int .i64 e.ver, .int .i64 e.asof, .bool e.gone, .string e.text]
def E.zero : E := ⟨0, 0, 0, false, ⟨#[]⟩⟩

def joinIn (p q : E) : E × Int :=
  if p.ver = q.ver then
    if (!(p.gone == q.gone) || !(p.text.toList == q.text.toList)) = true then (E.zero, 7) else ({ q with asof := max p.asof q.asof }, 0)
  else if q.ver ≤ p.asof then (E.zero, 7) else (q, 0)
def joined (a b : E) : E × Int := if b.ver < a.ver then joinIn b a else joinIn a b

end Go.Proofs.YtljkclebcoanaaaGreatDoor
namespace Go.Proofs.YtljkclebcoanaaaGreatDoor
open Go.RowKit
open Go.ChangeShapes Go.WideShapes Go.ChangeAt

def chk2 (a b : E) : Int := if chk a = 0 then chk b else chk a

end Go.Proofs.YtljkclebcoanaaaGreatDoor
namespace Go.Proofs.YtljkclebcoanaaaGreatDoor
open Go.RowKit
open Go.ChangeShapes Go.WideShapes Go.ChangeAt

def joinR (a b : E) : E × Int := if chk2 a b = 0 then (if a.key = b.key then joined a b else (E.zero, 3)) else (E.zero, chk2 a b)

end Go.Proofs.YtljkclebcoanaaaGreatDoor
