/-
  A WHOLE ENTRY, loaded and boxed by ONE law each (in a great frame the walk's own steps, cell by cell, are too dear for the kernel). CONDITIONS: none.
-/
import Derived.Test.YtneilklimpdeoaaGreatDoorEKit
import Derived.Deep.MidRow
import Derived.Great.BuildSlice
namespace Go.Proofs.YtneilklimpdeoaaGreatDoor
open Go.RowKit
open Go.ChangeShapes Go.WideShapes Go.ChangeAt

theorem range5 {w : World} {b o : Nat} {c0 c1 c2 c3 c4 : Value} (h0 : w.cell? ⟨b, o, none⟩ = some c0) (h1 : w.cell? ⟨b, o + 1, none⟩ = some c1) (h2 : w.cell? ⟨b, o + 2, none⟩ = some c2) (h3 : w.cell? ⟨b, o + 3, none⟩ = some c3) (h4 : w.cell? ⟨b, o + 4, none⟩ = some c4) : w.rangeAt b o [c0, c1, c2, c3, c4] := by
  intro j v hj
  match j, hj with
  | 0, hj => cases hj; exact h0
  | 1, hj => cases hj; exact h1
  | 2, hj => cases hj; exact h2
  | 3, hj => cases hj; exact h3
  | 4, hj => cases hj; exact h4
  | n + 5, hj => simp at hj
theorem Blk.range5 {w : World} {g : Nat} {t : TypeId} {c0 c1 c2 c3 c4 : Value} (h : Blk w g t #[c0, c1, c2, c3, c4]) : w.rangeAt g 0 [c0, c1, c2, c3, c4] :=
  Go.Proofs.YtneilklimpdeoaaGreatDoor.range5 (h.cell 0) (h.cell 1) (h.cell 2) (h.cell 3) (h.cell 4)
section
variable {ops : Array Oper} {rest : List Oper} {o : Oper} {a : Act} {w : World} {Q : Exit → Act → World → Prop}
/-- guards: the law behind is tried at such an operation alone -/
theorem at_loadE {x : Operand} (_ho : o.op = .load 46 x) (h : wpList Tryz.prog ops Q (o :: rest) a w) : wpList Tryz.prog ops Q (o :: rest) a w := h
theorem at_buildE {n : Nat} {ps : Array (Nat × Operand)} (_ho : o.op = .buildSlice 32 n ps) (h : wpList Tryz.prog ops Q (o :: rest) a w) : wpList Tryz.prog ops Q (o :: rest) a w := h
theorem ldE (hgd : o.guard = none) (x : Operand) (ho : o.op = .load 46 x) (b f : Nat) (hx : a.eval x = .pointer (some ⟨b, f, none⟩)) (c0 c1 c2 c3 c4 : Value) (hc : w.rangeAt b f [c0, c1, c2, c3, c4])
    (h : wpList Tryz.prog ops Q rest (a.put o.dst (.agg #[c0, c1, c2, c3, c4])) w) : wpList Tryz.prog ops Q (o :: rest) a w :=
  wpList_load_mid hgd 46 x ho b f hx [c0, c1, c2, c3, c4] _ hc Tryz.underlying46 rfl (by kernel_rfl) h
theorem fillE (x0 x1 x2 x3 x4 : Value) : Instr.fill (fun i => some (i * 5, 5)) ((Array.range (1 * 5)).map (E.zero.val.cells[· % E.zero.val.cells.size]!)) [(0, .agg #[x0, x1, x2, x3, x4])] = some #[x0, x1, x2, x3, x4] := by kernel_rfl
theorem bdE (hgd : o.guard = none) (x : Operand) (ho : o.op = .buildSlice 32 1 #[(0, x)]) (c0 c1 c2 c3 c4 : Value) (hx : a.eval x = .agg #[c0, c1, c2, c3, c4])
    (h : wpList Tryz.prog ops Q rest (a.put o.dst (.slice (some ⟨w.heap.size, 0, none⟩) 1 1)) (w.alloc (.cells #[c0, c1, c2, c3, c4] 46))) : wpList Tryz.prog ops Q (o :: rest) a w := by
  have hi := infoE
  cases hq : Tryz.prog.info? 46 with
  | none => rw [hq] at hi; cases hi
  | some ie =>
    rw [hq] at hi
    injection hi with hi
    injection hi with hz hi
    injection hi with hs _
    refine wpList_buildSlice hgd 32 46 1 #[(0, x)] ho #[c0, c1, c2, c3, c4] ie E.zero.val Tryz.underlying32 hq hz (by rw [hs]; decide) (by rw [hs]; decide) ?_ h
    rw [hs, Array.toList_map]
    show Instr.fill _ _ [(0, a.eval x)] = _
    rw [hx]
    exact fillE _ _ _ _ _
end
end Go.Proofs.YtneilklimpdeoaaGreatDoor
