/-
  ROWS OF CACHES of the call's own: appended to, handed on. CONDITIONS: none.
-/
import Derived.Test.YtmgiecoeeidgoaaGreatDoorRowS
import Derived.Test.YtmgiecoeeidgoaaGreatDoorKit
import Derived.Test.YtmgiecoeeidgoaaGreatDoorEKit
import Derived.Test.YtmgiecoeeidgoaaGreatDoorCAdd
import Derived.Test.YtmgiecoeeidgoaaGreatDoorTomb
namespace Go.Proofs.YtmgiecoeeidgoaaGreatDoor
open Go.RowKit
open Go.ChangeShapes Go.WideShapes Go.ChangeAt

theorem infoSE : (Tryz.prog.info? 43).map (fun i => (i.zero, i.size, i.bytes)) = some (some (.slice none 0 0), 1, 24) := by kernel_rfl
theorem appSE {ops : Array Oper} {rest : List Oper} {o : Oper} {a : Act} {Q : Exit → Act → World → Prop} (X : World) (base : Nat) (v : Value) (l : List (SlV E)) (x0 : SlV E) (hown : Ow cellS 1 base 43 X v l)
    (hgd : o.guard = none) (p q : Operand) (ho : o.op = .call { callee := .builtin .append, args := #[p, q], argTypes := #[42, 42] }) (hp : a.eval p = v) {N : Nat} (hq : a.eval q = .slice (some ⟨N, 0, none⟩) 1 1) (hN : X.heap.size = N) (hl : l.length ≤ 100000000) (hb : base ≤ X.heap.size)
    (h : ∀ v' w', Ow cellS 1 base 43 w' v' (l ++ [x0]) → Fr (fun k => some k = foot v) X w' → (foot v' = foot v ∨ foot v' = some (X.heap.size + 1)) → wpList Tryz.prog ops Q rest (a.put o.dst v') w') :
    wpList Tryz.prog ops Q (o :: rest) a (X.alloc (.cells #[.slice x0.A x0.xs.length x0.c] 43)) := by
  subst hN
  exact app_src cellS 1 24 cellS_length (by decide) (by decide) _ _ 42 (.slice none 0 0) rfl Tryz.underlying42 infoSE hgd p q ho _ base v _ l [x0] hp hq
    (Src.ofSlice _ Tryz.underlying42 ⟨X.heap.size, 0, none⟩ 1 1 _ rfl (fun j u hj => by rw [Addr_add, Nat.zero_add, (Blk.new X 43 _).cell j]; simpa [cellS, SlV.val] using hj) (fun u hu => by simp at hu; exact cellS_one _ u hu)) (hown.alloc _) (by simp; omega) (by simp; omega) (fun v' w' h1 h2 h3 => h v' w' h1 (((Fr.refl _ _).alloc _).step h2) (by simpa using h3))

theorem cachesAt_cod {w : World} {s : SlV (SlV E)} (h : codecEntriess.good w s) : CachesAt w s where
  row hn := by
    obtain ⟨b, off, hA, hb, hc⟩ := h.1 hn
    refine ⟨b, off, hA, hb, fun i hi => ?_⟩
    have := hc i hi 0 (by rw [Tryz.cellsEntries]; decide)
    rw [Tryz.cellsEntries, Nat.mul_one, Nat.add_zero] at this
    rw [this]
    rfl
  each i hi := entriesAt_of (h.2.1 _ (List.getElem_mem hi))
  len := Nat.le_trans h.2.2.1 h.2.2.2

/-- a cache of the call's own -/
def OwnC (base : Nat) (w : World) (x : SlV E) : Prop := Ow E.cells 5 base 38 w x.val x.xs ∧ ∀ y ∈ x.xs, y.good
theorem OwnC.belowS {base : Nat} {w w' : World} {x : SlV E} (h : OwnC base w x) (hb : Below w.heap.size w w') : OwnC base w' x := ⟨h.1.belowS hb, h.2⟩
theorem OwnC.alloc {base : Nat} {w : World} {x : SlV E} (h : OwnC base w x) (o : Obj) : OwnC base (w.alloc o) x := ⟨h.1.alloc o, h.2⟩
theorem OwnC.es {base : Nat} {w : World} {x : SlV E} (h : OwnC base w x) : EsAt w x := by
  obtain ⟨r, h1, h2, h3, _, _⟩ := EsAt.of_ow h.1 h.2
  obtain ⟨A, c, xs⟩ := x
  obtain ⟨A', c', xs'⟩ := r
  simp only at h2
  subst h2
  unfold SlV.val at h1
  injection h1 with e1 _ e2
  simp only at e1 e2
  subst e1 e2
  exact h3
/-- what a call hands out as a slice of its own -/
theorem OwnC.of_ow {base : Nat} {w : World} {v : Value} {l : List E} (h : Ow E.cells 5 base 38 w v l) (hg : ∀ y ∈ l, y.good) : ∃ x : SlV E, v = .slice x.A x.xs.length x.c ∧ x.xs = l ∧ OwnC base w x := by
  obtain ⟨A, c, rfl, _⟩ := h.form
  exact ⟨⟨A, c, l⟩, rfl, rfl, h, hg⟩
theorem tyCE : (43 : TypeId) ≠ 38 := by decide
theorem OwnC.keep {base base2 : Nat} {w w' : World} {x : SlV E} {v : Value} {l : List (SlV E)} (hx : OwnC base w x) (h : Ow cellS 1 base2 43 w v l) (hf : Fr (fun k => some k = foot v) w w') : OwnC base w' x := ⟨h.keep hx.1 tyCE hf, hx.2⟩
/-- a row of caches, all of the call's own -/
def RowC (base : Nat) (w : World) (v : Value) (l : List (List E)) : Prop := ∃ q : List (SlV E), Ow cellS 1 base 43 w v q ∧ q.map SlV.xs = l ∧ ∀ x ∈ q, OwnC base w x
theorem RowC.nil (base : Nat) (w : World) : RowC base w (.slice none 0 0) [] := ⟨[], Ow.nil _ _ _ _ _, rfl, fun x hx => by cases hx⟩
theorem RowC.belowS {base : Nat} {w w' : World} {v : Value} {l : List (List E)} (h : RowC base w v l) (hb : Below w.heap.size w w') : RowC base w' v l := by
  obtain ⟨q, h1, h2, h3⟩ := h
  exact ⟨q, h1.belowS hb, h2, fun x hx => (h3 x hx).belowS hb⟩
theorem RowC.step {base : Nat} {w w' : World} {v v' : Value} {l : List (List E)} {q : List (SlV E)} {x : SlV E} (h : Ow cellS 1 base 43 w v q) (hq : q.map SlV.xs = l) (h3 : ∀ x ∈ q, OwnC base w x) (hx : OwnC base w x) (h' : Ow cellS 1 base 43 w' v' (q ++ [x])) (hf : Fr (fun k => some k = foot v) w w') : RowC base w' v' (l ++ [x.xs]) := by
  refine ⟨q ++ [x], h', by rw [List.map_append, hq]; rfl, fun y hy => ?_⟩
  rcases List.mem_append.1 hy with hy | hy
  · exact (h3 y hy).keep h hf
  · rw [List.mem_singleton.1 hy]; exact hx.keep h hf
theorem SsAt.caches {w : World} {s : SlV (SlV E)} (h : SsAt w s) (he : ∀ x ∈ s.xs, EntriesAt w x) : CachesAt w s := ⟨fun h0 => by
    obtain ⟨b, off, h1, h2, h3⟩ := h.row h0
    exact ⟨b, off, h1, h2, fun i hi => by rw [h3 i hi, getD_get _ hi]; rfl⟩, fun i hi => he _ (List.getElem_mem hi), h.len⟩
theorem RowC.caches {base : Nat} {w : World} {v : Value} {l : List (List E)} (h : RowC base w v l) : ∃ r : SlV (SlV E), v = .slice r.A r.xs.length r.c ∧ r.xs.map SlV.xs = l ∧ CachesAt w r ∧ ∀ x ∈ r.xs, EsAt w x := by
  obtain ⟨q, h1, h2, h3⟩ := h
  obtain ⟨r, hv, hx, hr, _, _⟩ := SsAt.of_ow h1
  refine ⟨r, hv, by rw [hx]; exact h2, hr.caches (fun x hx' => ?_), fun x hx' => ?_⟩
  · rw [hx] at hx'; exact (h3 x hx').es.entries
  · rw [hx] at hx'; exact (h3 x hx').es
end Go.Proofs.YtmgiecoeeidgoaaGreatDoor
