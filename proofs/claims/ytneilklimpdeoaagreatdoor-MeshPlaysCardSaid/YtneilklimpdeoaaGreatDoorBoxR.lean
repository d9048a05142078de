/-
  AN ENTRY IN A BOX OF THE CALL's OWN, laid ahead of a call or behind it. CONDITIONS: none.
  TWO OR THREE CELLS kept over allocations and calls. CONDITIONS: none.
-/
import Derived.Test.YtneilklimpdeoaaGreatDoorEntry
import Derived.Test.YtneilklimpdeoaaGreatDoorKit
namespace Go.Proofs.YtneilklimpdeoaaGreatDoor
open Go.RowKit
open Go.ChangeShapes Go.WideShapes Go.ChangeAt

/-- an entry in a box of the call's own -/
def BoxR (w0 : World) (cs : Array Value) (a : Value) (wx : World) : Prop := ∃ g9, a = .pointer (some ⟨g9, 0, none⟩) ∧ w0.heap.size ≤ g9 ∧ Blk wx g9 46 cs ∧ Below w0.heap.size w0 wx
theorem BoxR.mk1 {w0 X : World} {cs : Array Value} {g : Nat} (hb : Below w0.heap.size w0 X) (hg : g = X.heap.size) : BoxR w0 cs (.pointer (some ⟨g, 0, none⟩)) (X.alloc (.cells cs 46)) :=
  ⟨_, rfl, by rw [hg]; exact hb.size, by rw [hg]; exact Blk.new _ _ _, hb.alloc hb.size _⟩
theorem BoxR.mk2 {w0 X : World} {a b c d e x0 x1 x2 x3 x4 : Value} {g : Nat} (hB : Blk X g 46 #[a, b, c, d, e]) (hg : w0.heap.size ≤ g) (hb : Below w0.heap.size w0 X) :
    BoxR w0 #[x0, x1, x2, x3, x4] (.pointer (some ⟨g, 0, none⟩)) (((((X.setCell ⟨g, 0, none⟩ x0).setCell ⟨g, 1, none⟩ x1).setCell ⟨g, 2, none⟩ x2).setCell ⟨g, 3, none⟩ x3).setCell ⟨g, 4, none⟩ x4) :=
  ⟨_, rfl, hg, hB.put5 _ _ _ _ _, ((((hb.setCell (p := ⟨g, 0, none⟩) hg _).setCell (p := ⟨g, 1, none⟩) hg _).setCell (p := ⟨g, 2, none⟩) hg _).setCell (p := ⟨g, 3, none⟩) hg _).setCell (p := ⟨g, 4, none⟩) hg _⟩
theorem Blk.newD {w X : World} {t : TypeId} {cs : Array Value} (hb : Below (w.drew.alloc (.cells cs t)).heap.size (w.drew.alloc (.cells cs t)) X) : Blk X w.heap.size t cs := (Blk.new w.drew t cs).belowS hb
theorem Blk.newA {w X : World} {t : TypeId} {cs : Array Value} (hb : Below (w.alloc (.cells cs t)).drew.heap.size (w.alloc (.cells cs t)).drew X) : Blk X w.heap.size t cs := (show Blk (w.alloc (.cells cs t)).drew w.heap.size t cs from Blk.new w t cs).belowS hb
end Go.Proofs.YtneilklimpdeoaaGreatDoor
namespace Go.Proofs.YtneilklimpdeoaaGreatDoor
open Go.RowKit

theorem keep2_alloc {w0 W : World} {p1 p2 : Addr} {v1 v2 : Value} (o : Obj) (l1 : p1.block < w0.heap.size) (l2 : p2.block < w0.heap.size) (h : Below w0.heap.size w0 W ∧ W.cell? p1 = some v1 ∧ W.cell? p2 = some v2) : Below w0.heap.size w0 (W.alloc o) ∧ (W.alloc o).cell? p1 = some v1 ∧ (W.alloc o).cell? p2 = some v2 :=
  ⟨h.1.alloc h.1.size o, (World.cell?_alloc_lt W o p1 (Nat.lt_of_lt_of_le l1 h.1.size)).trans h.2.1, (World.cell?_alloc_lt W o p2 (Nat.lt_of_lt_of_le l2 h.1.size)).trans h.2.2⟩
theorem keep2_below {w0 W : World} {p1 p2 : Addr} {v1 v2 : Value} (l1 : p1.block < w0.heap.size) (l2 : p2.block < w0.heap.size) (c1 : w0.cell? p1 = some v1) (c2 : w0.cell? p2 = some v2) (h : Below w0.heap.size w0 W) : Below w0.heap.size w0 W ∧ W.cell? p1 = some v1 ∧ W.cell? p2 = some v2 :=
  ⟨h, (h.cell l1).trans c1, (h.cell l2).trans c2⟩
theorem keep3_alloc {w0 W : World} {p1 p2 p3 : Addr} {v1 v2 v3 : Value} (o : Obj) (l1 : p1.block < w0.heap.size) (l2 : p2.block < w0.heap.size) (l3 : p3.block < w0.heap.size) (h : Below w0.heap.size w0 W ∧ W.cell? p1 = some v1 ∧ W.cell? p2 = some v2 ∧ W.cell? p3 = some v3) : Below w0.heap.size w0 (W.alloc o) ∧ (W.alloc o).cell? p1 = some v1 ∧ (W.alloc o).cell? p2 = some v2 ∧ (W.alloc o).cell? p3 = some v3 :=
  ⟨h.1.alloc h.1.size o, (World.cell?_alloc_lt W o p1 (Nat.lt_of_lt_of_le l1 h.1.size)).trans h.2.1, (World.cell?_alloc_lt W o p2 (Nat.lt_of_lt_of_le l2 h.1.size)).trans h.2.2.1, (World.cell?_alloc_lt W o p3 (Nat.lt_of_lt_of_le l3 h.1.size)).trans h.2.2.2⟩
theorem keep3_below {w0 W : World} {p1 p2 p3 : Addr} {v1 v2 v3 : Value} (l1 : p1.block < w0.heap.size) (l2 : p2.block < w0.heap.size) (l3 : p3.block < w0.heap.size) (c1 : w0.cell? p1 = some v1) (c2 : w0.cell? p2 = some v2) (c3 : w0.cell? p3 = some v3) (h : Below w0.heap.size w0 W) : Below w0.heap.size w0 W ∧ W.cell? p1 = some v1 ∧ W.cell? p2 = some v2 ∧ W.cell? p3 = some v3 :=
  ⟨h, (h.cell l1).trans c1, (h.cell l2).trans c2, (h.cell l3).trans c3⟩
end Go.Proofs.YtneilklimpdeoaaGreatDoor
