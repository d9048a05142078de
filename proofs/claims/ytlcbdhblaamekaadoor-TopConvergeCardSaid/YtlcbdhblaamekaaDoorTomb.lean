/-
  CONTRACTS of package tomb: Caches, Key. CONDITIONS: none.
-/
import Derived.Test.YtlcbdhblaamekaaDoorCGet
namespace Go.Proofs.YtlcbdhblaamekaaDoor
open Go.RowKit
open Go.ChangeShapes Go.WideShapes Go.ChangeAt

/-- caches as they came in -/
structure CachesAt (w : World) (s : SlV (SlV E)) : Prop where
  row : 0 < s.xs.length → ∃ b off, s.A = some ⟨b, off, none⟩ ∧ b < w.heap.size ∧ ∀ i (hi : i < s.xs.length), w.cell? ⟨b, off + i, none⟩ = some (.slice s.xs[i].A s.xs[i].xs.length s.xs[i].c)
  each : ∀ i (hi : i < s.xs.length), EntriesAt w s.xs[i]
  len : s.xs.length ≤ maxLen
theorem CachesAt.stays {w w' : World} {s : SlV (SlV E)} (h : CachesAt w s) (hb : Below w.heap.size w w') : CachesAt w' s := ⟨fun h0 => by
    obtain ⟨b', off', h1, h2, h3⟩ := h.row h0
    exact ⟨b', off', h1, Nat.lt_of_lt_of_le h2 hb.size, fun i hi => (hb.cell (p := ⟨b', _, none⟩) h2).trans (h3 i hi)⟩, fun i hi => (h.each i hi).stays hb, h.len⟩

def chkTs : List (SlV E) → Int
  | [] => 0
  | c :: r => if chkC c.xs = 0 then chkTs r else chkC c.xs
def chkT (l : List (SlV E)) : Int := if l.length = 0 then 5 else if 6 < l.length then 4 else chkTs l
def chkTK (l : List (SlV E)) (k : Int) : Int := if chkT l = 0 then (if keyB k = true then 0 else 1) else chkT l

end Go.Proofs.YtlcbdhblaamekaaDoor
