/-
  AN ENTRY IN A BOX OF THE CALL's OWN, laid ahead of a call or behind it. CONDITIONS: none.
-/
import Derived.Test.YtdocdmpfokdjkaaCodecs
import Derived.Test.YtdocdmpfokdjkaaKit
namespace Go.Proofs.Ytdocdmpfokdjkaa
open Go.RowKit
open Go.ChangeShapes Go.WideShapes Go.ChangeAt

/-- an entry in a box of the call's own -/
def BoxR (w0 : World) (cs : Array Value) (a : Value) (wx : World) : Prop := ∃ g9, a = .pointer (some ⟨g9, 0, none⟩) ∧ w0.heap.size ≤ g9 ∧ Blk wx g9 47 cs ∧ Below w0.heap.size w0 wx
theorem BoxR.mk1 {w0 X : World} {cs : Array Value} {g : Nat} (hb : Below w0.heap.size w0 X) (hg : g = X.heap.size) : BoxR w0 cs (.pointer (some ⟨g, 0, none⟩)) (X.alloc (.cells cs 47)) :=
  ⟨_, rfl, by rw [hg]; exact hb.size, by rw [hg]; exact Blk.new _ _ _, hb.alloc hb.size _⟩
theorem BoxR.mk2 {w0 X : World} {a b c d e x0 x1 x2 x3 x4 : Value} {g : Nat} (hB : Blk X g 47 #[a, b, c, d, e]) (hg : w0.heap.size ≤ g) (hb : Below w0.heap.size w0 X) :
    BoxR w0 #[x0, x1, x2, x3, x4] (.pointer (some ⟨g, 0, none⟩)) (((((X.setCell ⟨g, 0, none⟩ x0).setCell ⟨g, 1, none⟩ x1).setCell ⟨g, 2, none⟩ x2).setCell ⟨g, 3, none⟩ x3).setCell ⟨g, 4, none⟩ x4) :=
  ⟨_, rfl, hg, hB.put5 _ _ _ _ _, ((((hb.setCell (p := ⟨g, 0, none⟩) hg _).setCell (p := ⟨g, 1, none⟩) hg _).setCell (p := ⟨g, 2, none⟩) hg _).setCell (p := ⟨g, 3, none⟩) hg _).setCell (p := ⟨g, 4, none⟩) hg _⟩
theorem Blk.newD {w X : World} {t : TypeId} {cs : Array Value} (hb : Below (w.drew.alloc (.cells cs t)).heap.size (w.drew.alloc (.cells cs t)) X) : Blk X w.heap.size t cs := (Blk.new w.drew t cs).belowS hb
theorem Blk.newA {w X : World} {t : TypeId} {cs : Array Value} (hb : Below (w.alloc (.cells cs t)).drew.heap.size (w.alloc (.cells cs t)).drew X) : Blk X w.heap.size t cs := (show Blk (w.alloc (.cells cs t)).drew w.heap.size t cs from Blk.new w t cs).belowS hb
end Go.Proofs.Ytdocdmpfokdjkaa
