/-
  A WHOLE MEMBER, loaded and boxed by ONE law each (in a great frame the walk's own steps, cell by cell, are too dear for the kernel). CONDITIONS: none.
-/
import Derived.Test.YtgamocljdbffpaaDoorMem
import Derived.Deep.MidRow
import Derived.Great.BuildSlice
namespace Go.Proofs.YtgamocljdbffpaaDoor
open Go.RowKit
open Go.ChangeShapes Go.WideShapes Go.ChangeAt

theorem range3 {w : World} {b o : Nat} {c0 c1 c2 : Value} (h0 : w.cell? ⟨b, o, none⟩ = some c0) (h1 : w.cell? ⟨b, o + 1, none⟩ = some c1) (h2 : w.cell? ⟨b, o + 2, none⟩ = some c2) : w.rangeAt b o [c0, c1, c2] := by
  intro j v hj
  match j, hj with
  | 0, hj => cases hj; exact h0
  | 1, hj => cases hj; exact h1
  | 2, hj => cases hj; exact h2
  | n + 3, hj => simp at hj
theorem Blk.range3 {w : World} {g : Nat} {t : TypeId} {c0 c1 c2 : Value} (h : Blk w g t #[c0, c1, c2]) : w.rangeAt g 0 [c0, c1, c2] :=
  Go.Proofs.YtgamocljdbffpaaDoor.range3 (h.cell 0) (h.cell 1) (h.cell 2)
section
variable {ops : Array Oper} {rest : List Oper} {o : Oper} {a : Act} {w : World} {Q : Exit → Act → World → Prop}
theorem at_loadM {x : Operand} (_ho : o.op = .load 52 x) (h : wpList Tryd.prog ops Q (o :: rest) a w) : wpList Tryd.prog ops Q (o :: rest) a w := h
theorem at_buildM {n : Nat} {ps : Array (Nat × Operand)} (_ho : o.op = .buildSlice 53 n ps) (h : wpList Tryd.prog ops Q (o :: rest) a w) : wpList Tryd.prog ops Q (o :: rest) a w := h
theorem ldM (hgd : o.guard = none) (x : Operand) (ho : o.op = .load 52 x) (b f : Nat) (hx : a.eval x = .pointer (some ⟨b, f, none⟩)) (c0 c1 c2 : Value) (hc : w.rangeAt b f [c0, c1, c2])
    (h : wpList Tryd.prog ops Q rest (a.put o.dst (.agg #[c0, c1, c2])) w) : wpList Tryd.prog ops Q (o :: rest) a w :=
  wpList_load_mid hgd 52 x ho b f hx [c0, c1, c2] _ hc Tryd.underlying52 rfl (by kernel_rfl) h
theorem fillM (x0 x1 x2 : Value) : Instr.fill (fun i => some (i * 3, 3)) ((Array.range (1 * 3)).map (M.zero.val.cells[· % M.zero.val.cells.size]!)) [(0, .agg #[x0, x1, x2])] = some #[x0, x1, x2] := by kernel_rfl
theorem bdM (hgd : o.guard = none) (x : Operand) (ho : o.op = .buildSlice 53 1 #[(0, x)]) (c0 c1 c2 : Value) (hx : a.eval x = .agg #[c0, c1, c2])
    (h : wpList Tryd.prog ops Q rest (a.put o.dst (.slice (some ⟨w.heap.size, 0, none⟩) 1 1)) (w.alloc (.cells #[c0, c1, c2] 52))) : wpList Tryd.prog ops Q (o :: rest) a w := by
  have hi := infoM
  cases hq : Tryd.prog.info? 52 with
  | none => rw [hq] at hi; cases hi
  | some ie =>
    rw [hq] at hi
    injection hi with hi
    injection hi with hz hi
    injection hi with hs _
    refine wpList_buildSlice hgd 53 52 1 #[(0, x)] ho #[c0, c1, c2] ie M.zero.val Tryd.underlying53 hq hz (by rw [hs]; decide) (by rw [hs]; decide) ?_ h
    rw [hs, Array.toList_map]
    show Instr.fill _ _ [(0, a.eval x)] = _
    rw [hx]
    exact fillM _ _ _
end
end Go.Proofs.YtgamocljdbffpaaDoor
