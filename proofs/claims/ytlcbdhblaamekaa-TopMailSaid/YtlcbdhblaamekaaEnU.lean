/-
  A WHOLE LETTER (and the entry in it), loaded, boxed and stored by ONE law each (in a great frame the walk's own steps, cell by cell, are too dear). CONDITIONS: none.
  A WHOLE ENTRY loaded, stored, and put into a letter, by ONE law each, inside a region that draws. CONDITIONS: none.
-/
import Derived.Test.YtlcbdhblaamekaaMailTy
import Derived.Deep.MidRow
import Derived.Great.BuildSlice
namespace Go.Proofs.Ytlcbdhblaamekaa
open Go.RowKit
open Go.ChangeShapes Go.WideShapes Go.ChangeAt

theorem rangeE5 {w : World} {b o : Nat} {c0 c1 c2 c3 c4 : Value} (h0 : w.cell? ⟨b, o, none⟩ = some c0) (h1 : w.cell? ⟨b, o + 1, none⟩ = some c1) (h2 : w.cell? ⟨b, o + 2, none⟩ = some c2) (h3 : w.cell? ⟨b, o + 3, none⟩ = some c3) (h4 : w.cell? ⟨b, o + 4, none⟩ = some c4) : w.rangeAt b o [c0, c1, c2, c3, c4] := by
  intro j v hj
  match j, hj with
  | 0, hj => cases hj; exact h0
  | 1, hj => cases hj; exact h1
  | 2, hj => cases hj; exact h2
  | 3, hj => cases hj; exact h3
  | 4, hj => cases hj; exact h4
  | n + 5, hj => simp at hj
theorem rangeL7 {w : World} {b o : Nat} {c0 c1 c2 c3 c4 c5 c6 : Value} (h0 : w.cell? ⟨b, o, none⟩ = some c0) (h1 : w.cell? ⟨b, o + 1, none⟩ = some c1) (h2 : w.cell? ⟨b, o + 2, none⟩ = some c2) (h3 : w.cell? ⟨b, o + 3, none⟩ = some c3) (h4 : w.cell? ⟨b, o + 4, none⟩ = some c4) (h5 : w.cell? ⟨b, o + 5, none⟩ = some c5) (h6 : w.cell? ⟨b, o + 6, none⟩ = some c6) : w.rangeAt b o [c0, c1, c2, c3, c4, c5, c6] := by
  intro j v hj
  match j, hj with
  | 0, hj => cases hj; exact h0
  | 1, hj => cases hj; exact h1
  | 2, hj => cases hj; exact h2
  | 3, hj => cases hj; exact h3
  | 4, hj => cases hj; exact h4
  | 5, hj => cases hj; exact h5
  | 6, hj => cases hj; exact h6
  | n + 7, hj => simp at hj
section
variable {ops : Array Oper} {rest : List Oper} {o : Oper} {a : Act} {w : World} {Q : Exit → Act → World → Prop}
theorem at_load5 {x : Operand} (_ho : o.op = .load 36 x) (h : wpList Try.prog ops Q (o :: rest) a w) : wpList Try.prog ops Q (o :: rest) a w := h
theorem at_loadLt {x : Operand} (_ho : o.op = .load 42 x) (h : wpList Try.prog ops Q (o :: rest) a w) : wpList Try.prog ops Q (o :: rest) a w := h
theorem at_storeLt {x y : Operand} (_ho : o.op = .store 42 x y) (h : wpList Try.prog ops Q (o :: rest) a w) : wpList Try.prog ops Q (o :: rest) a w := h
theorem ld5 (hgd : o.guard = none) (x : Operand) (ho : o.op = .load 36 x) (b f : Nat) (hx : a.eval x = .pointer (some ⟨b, f, none⟩)) (c0 c1 c2 c3 c4 : Value) (hc : w.rangeAt b f [c0, c1, c2, c3, c4])
    (h : wpList Try.prog ops Q rest (a.put o.dst (.agg #[c0, c1, c2, c3, c4])) w) : wpList Try.prog ops Q (o :: rest) a w :=
  wpList_load_mid hgd 36 x ho b f hx [c0, c1, c2, c3, c4] _ hc Try.underlying36 rfl (by kernel_rfl) h
theorem ldLt (hgd : o.guard = none) (x : Operand) (ho : o.op = .load 42 x) (b f : Nat) (hx : a.eval x = .pointer (some ⟨b, f, none⟩)) (c0 c1 c2 c3 c4 c5 c6 : Value) (hc : w.rangeAt b f [c0, c1, c2, c3, c4, c5, c6])
    (h : wpList Try.prog ops Q rest (a.put o.dst (.agg #[c0, c1, c2, c3, c4, c5, c6])) w) : wpList Try.prog ops Q (o :: rest) a w :=
  wpList_load_mid hgd 42 x ho b f hx [c0, c1, c2, c3, c4, c5, c6] _ hc Try.underlying42 rfl (by kernel_rfl) h
theorem at_appLt {EE : Prop} {K : Act → World → Prop} {p q : Operand} {ts : Array TypeId} (_ho : o.op = .call { callee := .builtin .append, args := #[p, q], argTypes := ts }) (h : if Region.wanted o (yielded ops a.tmps) = true then Oper.wp Try.prog o a w K Q else EE) : if Region.wanted o (yielded ops a.tmps) = true then Oper.wp Try.prog o a w K Q else EE := h
theorem at_ldLtU {EE : Prop} {K : Act → World → Prop} {x : Operand} (_ho : o.op = .load 42 x) (h : if Region.wanted o (yielded ops a.tmps) = true then Oper.wp Try.prog o a w K Q else EE) : if Region.wanted o (yielded ops a.tmps) = true then Oper.wp Try.prog o a w K Q else EE := h
theorem ldLtU {EE : Prop} {K : Act → World → Prop} (hgd : o.guard = none) (x : Operand) (ho : o.op = .load 42 x) (b f : Nat) (hx : a.eval x = .pointer (some ⟨b, f, none⟩)) (c0 c1 c2 c3 c4 c5 c6 : Value) (hc : w.rangeAt b f [c0, c1, c2, c3, c4, c5, c6])
    (h : K (a.put o.dst (.agg #[c0, c1, c2, c3, c4, c5, c6])) w) : if Region.wanted o (yielded ops a.tmps) = true then Oper.wp Try.prog o a w K Q else EE := by
  rw [if_pos (by simp [Region.wanted, hgd])]
  exact wp_load_mid 42 x ho b f hx [c0, c1, c2, c3, c4, c5, c6] _ hc Try.underlying42 rfl (by kernel_rfl) h
theorem at_bsLtU {EE : Prop} {K : Act → World → Prop} {n : Nat} {ps : Array (Nat × Operand)} (_ho : o.op = .buildSlice 60 n ps) (h : if Region.wanted o (yielded ops a.tmps) = true then Oper.wp Try.prog o a w K Q else EE) : if Region.wanted o (yielded ops a.tmps) = true then Oper.wp Try.prog o a w K Q else EE := h
theorem fillLt (x0 x1 x2 x3 x4 x5 x6 : Value) : Instr.fill (fun i => some (i * 7, 7)) ((Array.range (1 * 7)).map (Lt.zero.val.cells[· % Lt.zero.val.cells.size]!)) [(0, .agg #[x0, x1, x2, x3, x4, x5, x6])] = some #[x0, x1, x2, x3, x4, x5, x6] := by kernel_rfl
theorem bsLtU {EE : Prop} {K : Act → World → Prop} (hgd : o.guard = none) (x : Operand) (ho : o.op = .buildSlice 60 1 #[(0, x)]) (c0 c1 c2 c3 c4 c5 c6 : Value) (hx : a.eval x = .agg #[c0, c1, c2, c3, c4, c5, c6])
    (h : K (a.put o.dst (.slice (some ⟨w.heap.size, 0, none⟩) 1 1)) (w.alloc (.cells #[c0, c1, c2, c3, c4, c5, c6] 42))) : if Region.wanted o (yielded ops a.tmps) = true then Oper.wp Try.prog o a w K Q else EE := by
  rw [if_pos (by simp [Region.wanted, hgd])]
  have hi := infoLt
  cases hq : Try.prog.info? 42 with
  | none => rw [hq] at hi; cases hi
  | some ie =>
    rw [hq] at hi
    injection hi with hi
    injection hi with hz hi
    injection hi with hs _
    refine wp_buildSlice 60 42 1 #[(0, x)] ho #[c0, c1, c2, c3, c4, c5, c6] ie Lt.zero.val Try.underlying60 hq hz (by rw [hs]; decide) (by rw [hs]; decide) ?_ h
    rw [hs, Array.toList_map]
    show Instr.fill _ _ [(0, a.eval x)] = _
    rw [hx]
    exact fillLt _ _ _ _ _ _ _
theorem at_bldLt {ps : Array (Nat × Operand)} (_ho : o.op = .build 42 ps) (h : wpList Try.prog ops Q (o :: rest) a w) : wpList Try.prog ops Q (o :: rest) a w := h
theorem built7 (x1 x2 y0 y1 y2 : Int) (y3 : Bool) (y4 : ByteArray) : Try.prog.built 42 [(0, .int .i64 x1), (1, .int .i64 x2), (2, .agg #[.int .i64 y0, .int .i64 y1, .int .i64 y2, .bool y3, .string y4])] = some #[.int .i64 x1, .int .i64 x2, .int .i64 y0, .int .i64 y1, .int .i64 y2, .bool y3, .string y4] := by kernel_rfl
theorem bldLt (hgd : o.guard = none) (p q r : Operand) (ho : o.op = .build 42 #[(0, p), (1, q), (2, r)]) (x1 x2 y0 y1 y2 : Int) (y3 : Bool) (y4 : ByteArray) (hp : a.eval p = .int .i64 x1) (hq : a.eval q = .int .i64 x2) (hr : a.eval r = .agg #[.int .i64 y0, .int .i64 y1, .int .i64 y2, .bool y3, .string y4])
    (h : wpList Try.prog ops Q rest (a.put o.dst (.agg #[.int .i64 x1, .int .i64 x2, .int .i64 y0, .int .i64 y1, .int .i64 y2, .bool y3, .string y4])) w) : wpList Try.prog ops Q (o :: rest) a w := by
  have hb : Try.prog.built 42 ((#[(0, p), (1, q), (2, r)] : Array (Nat × Operand)).map fun (i, x) => (i, a.eval x)).toList = some #[.int .i64 x1, .int .i64 x2, .int .i64 y0, .int .i64 y1, .int .i64 y2, .bool y3, .string y4] := by
    rw [Array.toList_map]
    simp only [List.map_cons, List.map_nil, hp, hq, hr]
    exact built7 _ _ _ _ _ _ _
  refine wpList_build hgd _ _ ho (by rw [hb]; rfl) ?_
  rw [hb]
  exact h
theorem stLt (hgd : o.guard = none) (x y : Operand) (ho : o.op = .store 42 x y) (b : Nat) (hx : a.eval x = .pointer (some ⟨b, 0, none⟩)) (x1 x2 y0 y1 y2 : Int) (y3 : Bool) (y4 : ByteArray) (hy : a.eval y = .agg #[.int .i64 x1, .int .i64 x2, .int .i64 y0, .int .i64 y1, .int .i64 y2, .bool y3, .string y4])
    {z0 z1 z2 z3 z4 z5 z6 : Value} (hB : Blk w b 42 #[z0, z1, z2, z3, z4, z5, z6])
    (h : wpList Try.prog ops Q rest (a.put o.dst undef) (w.setCells b 0 [.int .i64 x1, .int .i64 x2, .int .i64 y0, .int .i64 y1, .int .i64 y2, .bool y3, .string y4])) : wpList Try.prog ops Q (o :: rest) a w :=
  wpList_store_mid hgd 42 x y ho b 0 _ hx hy (fun j hj => by
    have hj' : j < 7 := hj
    exact ⟨by rw [Nat.zero_add, hB.cell j, Array.getElem?_eq_getElem (by simpa using hj')]; rfl, hB.frozen _⟩) (by kernel_rfl) (all_oneCell_toArray (cs := [.int .i64 x1, .int .i64 x2, .int .i64 y0, .int .i64 y1, .int .i64 y2, .bool y3, .string y4]) (fun v hv => by simp at hv; rcases hv with rfl | rfl | rfl | rfl | rfl | rfl | rfl <;> rfl)) h
theorem ltBox (X : World) (z0 z1 z2 z3 z4 z5 z6 c0 c1 c2 c3 c4 c5 c6 : Value) : Blk ((X.alloc (.cells #[z0, z1, z2, z3, z4, z5, z6] 42)).setCells X.heap.size 0 [c0, c1, c2, c3, c4, c5, c6]) X.heap.size 42 #[c0, c1, c2, c3, c4, c5, c6] := by
  obtain ⟨cs', hR, hs, he, -⟩ := Blk.setCells [c0, c1, c2, c3, c4, c5, c6] 0 _ _ (Blk.new X 42 #[z0, z1, z2, z3, z4, z5, z6]) (Nat.le_refl 7)
  have : cs' = #[c0, c1, c2, c3, c4, c5, c6] := by
    refine Array.ext_getElem? (fun i => ?_)
    by_cases hi : i < 7
    · have := he i hi
      rw [Nat.zero_add] at this
      rw [this]
      match i, hi with
      | 0, _ | 1, _ | 2, _ | 3, _ | 4, _ | 5, _ | 6, _ => rfl
    · rw [Array.getElem?_eq_none (by rw [hs]; show 7 ≤ i; omega), Array.getElem?_eq_none (by show 7 ≤ i; omega)]
  rw [← this]
  exact hR
theorem ltBelow (X : World) (g : Nat) (z0 z1 z2 z3 z4 z5 z6 c0 c1 c2 c3 c4 c5 c6 : Value) (w0 : World) (hb : Below w0.heap.size w0 X) (hg : g = X.heap.size) : Below w0.heap.size w0 ((X.alloc (.cells #[z0, z1, z2, z3, z4, z5, z6] 42)).setCells g 0 [c0, c1, c2, c3, c4, c5, c6]) := by
  subst hg
  exact (hb.alloc hb.size _).trans ((Fr.setCells X.heap.size [c0, c1, c2, c3, c4, c5, c6] 0 _ (Fr.refl (fun k => k = X.heap.size) _) (.inl rfl)).below0 (by simp; exact Nat.le_succ_of_le hb.size) (fun i hi => by rw [hi]; exact hb.size))
end
end Go.Proofs.Ytlcbdhblaamekaa
namespace Go.Proofs.Ytlcbdhblaamekaa
open Go.RowKit
open Go.ChangeShapes Go.WideShapes Go.ChangeAt
section
variable {ops : Array Oper} {o : Oper} {a : Act} {w : World} {Q : Exit → Act → World → Prop} {EE : Prop} {K : Act → World → Prop}
theorem at_ld5U {x : Operand} (_ho : o.op = .load 36 x) (h : if Region.wanted o (yielded ops a.tmps) = true then Oper.wp Try.prog o a w K Q else EE) : if Region.wanted o (yielded ops a.tmps) = true then Oper.wp Try.prog o a w K Q else EE := h
theorem at_st5U {x y : Operand} (_ho : o.op = .store 36 x y) (h : if Region.wanted o (yielded ops a.tmps) = true then Oper.wp Try.prog o a w K Q else EE) : if Region.wanted o (yielded ops a.tmps) = true then Oper.wp Try.prog o a w K Q else EE := h
theorem at_bldLtU {ps : Array (Nat × Operand)} (_ho : o.op = .build 42 ps) (h : if Region.wanted o (yielded ops a.tmps) = true then Oper.wp Try.prog o a w K Q else EE) : if Region.wanted o (yielded ops a.tmps) = true then Oper.wp Try.prog o a w K Q else EE := h
theorem ld5U (hgd : o.guard = none) (x : Operand) (ho : o.op = .load 36 x) (b f : Nat) (hx : a.eval x = .pointer (some ⟨b, f, none⟩)) (c0 c1 c2 c3 c4 : Value) (hc : w.rangeAt b f [c0, c1, c2, c3, c4])
    (h : K (a.put o.dst (.agg #[c0, c1, c2, c3, c4])) w) : if Region.wanted o (yielded ops a.tmps) = true then Oper.wp Try.prog o a w K Q else EE := by
  rw [if_pos (by simp [Region.wanted, hgd])]
  exact wp_load_mid 36 x ho b f hx [c0, c1, c2, c3, c4] _ hc Try.underlying36 rfl (by kernel_rfl) h
theorem bldLtU (hgd : o.guard = none) (p q r : Operand) (ho : o.op = .build 42 #[(0, p), (1, q), (2, r)]) (x1 x2 y0 y1 y2 : Int) (y3 : Bool) (y4 : ByteArray) (hp : a.eval p = .int .i64 x1) (hq : a.eval q = .int .i64 x2) (hr : a.eval r = .agg #[.int .i64 y0, .int .i64 y1, .int .i64 y2, .bool y3, .string y4])
    (h : K (a.put o.dst (.agg #[.int .i64 x1, .int .i64 x2, .int .i64 y0, .int .i64 y1, .int .i64 y2, .bool y3, .string y4])) w) : if Region.wanted o (yielded ops a.tmps) = true then Oper.wp Try.prog o a w K Q else EE := by
  have hb : Try.prog.built 42 ((#[(0, p), (1, q), (2, r)] : Array (Nat × Operand)).map fun (i, x) => (i, a.eval x)).toList = some #[.int .i64 x1, .int .i64 x2, .int .i64 y0, .int .i64 y1, .int .i64 y2, .bool y3, .string y4] := by
    rw [Array.toList_map]
    simp only [List.map_cons, List.map_nil, hp, hq, hr]
    exact built7 _ _ _ _ _ _ _
  rw [if_pos (by simp [Region.wanted, hgd])]
  refine wp_build _ _ ho (by rw [hb]; rfl) ?_
  rw [hb]
  exact h
theorem st5U (hgd : o.guard = none) (x y : Operand) (ho : o.op = .store 36 x y) (b : Nat) (hx : a.eval x = .pointer (some ⟨b, 0, none⟩)) (y0 y1 y2 : Int) (y3 : Bool) (y4 : ByteArray) (hy : a.eval y = .agg #[.int .i64 y0, .int .i64 y1, .int .i64 y2, .bool y3, .string y4])
    {z0 z1 z2 z3 z4 : Value} (hB : Blk w b 36 #[z0, z1, z2, z3, z4])
    (h : K (a.put o.dst undef) (w.setCells b 0 [.int .i64 y0, .int .i64 y1, .int .i64 y2, .bool y3, .string y4])) : if Region.wanted o (yielded ops a.tmps) = true then Oper.wp Try.prog o a w K Q else EE := by
  rw [if_pos (by simp [Region.wanted, hgd])]
  exact wp_store_mid 36 x y ho b 0 _ hx hy (fun j hj => by
    have hj' : j < 5 := hj
    exact ⟨by rw [Nat.zero_add, hB.cell j, Array.getElem?_eq_getElem (by simpa using hj')]; rfl, hB.frozen _⟩) (by kernel_rfl) (all_oneCell_toArray (cs := [.int .i64 y0, .int .i64 y1, .int .i64 y2, .bool y3, .string y4]) (fun v hv => by simp at hv; rcases hv with rfl | rfl | rfl | rfl | rfl <;> rfl)) h
end
end Go.Proofs.Ytlcbdhblaamekaa
