/-
  A ROW OF ENTRIES that stands in a slot, however it came there. CONDITIONS: none.
-/
import Derived.Test.YtneilklimpdeoaaGreatDoorEKit
namespace Go.Proofs.YtneilklimpdeoaaGreatDoor
open Go.RowKit
open Go.ChangeShapes Go.WideShapes Go.ChangeAt

/-- a row of entries that stands in a slot -/
def RowV (w : World) (v : Value) (l : List E) : Prop := ∃ r : SlV E, v = .slice r.A r.xs.length r.c ∧ r.xs = l ∧ EsAt w r
theorem RowV.nil (w : World) : RowV w (.slice none 0 0) [] := ⟨⟨none, 0, []⟩, rfl, rfl, EsAt.empty _ _ _⟩
theorem RowV.of_ow {w : World} {base : Nat} {T : TypeId} {v : Value} {l : List E} (h : Ow E.cells 5 base T w v l) (hg : ∀ x ∈ l, x.good) : RowV w v l := by
  obtain ⟨r, h1, h2, h3, _, _⟩ := EsAt.of_ow h hg
  exact ⟨r, h1, h2, h3⟩
theorem RowV.stays {w w' : World} {v : Value} {l : List E} (h : RowV w v l) (hb : Below w.heap.size w w') : RowV w' v l := by
  obtain ⟨r, h1, h2, h3⟩ := h
  exact ⟨r, h1, h2, h3.stays hb⟩

end Go.Proofs.YtneilklimpdeoaaGreatDoor
