/-
  CLOSED FACTS of this seat's program, and the codec of api.Entry. CONDITIONS: none.
-/
import Derived.Test.YtgamocljdbffpaaDoorEntry
namespace Go.Proofs.YtgamocljdbffpaaDoor
open Go.RowKit
open Go.ChangeShapes Go.WideShapes Go.ChangeAt

theorem Tryd.own : ownKnob Tryd.prog.godebug = none := by kernel_rfl
theorem Tryd.laidOut : laidOutB Tryd.prog = true := by kernel_rfl
theorem Tryd.cellsEntry : Tryd.prog.cellsOf 35 = 5 := by kernel_rfl
theorem Tryd.cellsInt : Tryd.prog.cellsOf 3 = 1 := by kernel_rfl
theorem Tryd.cellsBool : Tryd.prog.cellsOf 4 = 1 := by kernel_rfl
theorem Tryd.cellsStr : Tryd.prog.cellsOf 9 = 1 := by kernel_rfl

/-- what is known of an entry that came in -/
def E.good (e : E) : Prop := (-9223372036854775808 ≤ e.key ∧ e.key ≤ 9223372036854775807) ∧ (-9223372036854775808 ≤ e.ver ∧ e.ver ≤ 9223372036854775807) ∧ (-9223372036854775808 ≤ e.asof ∧ e.asof ≤ 9223372036854775807) ∧ e.text.size ≤ maxLen
def codecEntry : Codec Tryd.prog 35 E where
  cells e := e.cells
  good _ e := e.good
  opens h := by
    obtain ⟨hlen, n, hf⟩ := trod_fields Tryd.underlying35 (by kernel_rfl) (by kernel_rfl) h
    obtain ⟨c0, y0, e0, h0⟩ := hf 0 _ rfl
    obtain ⟨c1, y1, e1, h1⟩ := hf 1 _ rfl
    obtain ⟨c2, y2, e2, h2⟩ := hf 2 _ rfl
    obtain ⟨c3, y3, e3, h3⟩ := hf 3 _ rfl
    obtain ⟨c4, y4, e4, h4⟩ := hf 4 _ rfl
    obtain ⟨k, hk, hgk⟩ := (Codec.int Tryd.underlying3).opens h0
    obtain ⟨v, hv, hgv⟩ := (Codec.int Tryd.underlying3).opens h1
    obtain ⟨a, ha, hga⟩ := (Codec.int Tryd.underlying3).opens h2
    obtain ⟨g, hg, _⟩ := (Codec.bool Tryd.underlying4).opens h3
    obtain ⟨t, ht, hgt⟩ := (Codec.str Tryd.underlying9).opens h4
    simp only [Codec.int, Codec.bool, Codec.str, List.cons.injEq, and_true] at hk hv ha hg ht
    subst hk hv ha hg ht
    refine ⟨⟨k, v, a, g, t⟩, ?_, hgk, hgv, hga, hgt⟩
    apply List.ext_getElem?
    intro i
    match i with
    | 0 => exact e0
    | 1 => exact e1
    | 2 => exact e2
    | 3 => exact e3
    | 4 => exact e4
    | i + 5 => rw [List.getElem?_eq_none (by rw [hlen]; exact Nat.le_add_left 5 i), List.getElem?_eq_none (by simp [E.cells])]
  stays h _ := h
end Go.Proofs.YtgamocljdbffpaaDoor
