/-
  THE FRAME OF A LAW's ROW AND CARD where the row lists eight variables of the library's (three tables of numbers, errors.errorType, two sentinels, White_Space, the table of white space). CONDITIONS: none.
-/
import Derived.Test.YtmgiecoeeidgoaaGreatDoorDoorT
import Derived.Lib.Space
namespace Go.Proofs.YtmgiecoeeidgoaaGreatDoor
open Go.ChangeShapes Go.WideShapes Go.RowKit

/-- The table of white space reads as it is laid. -/
def Ta (W : World) : Prop := Lib.TabIs Tryz.prog W "strings.asciiSpace" .u8 Lib.asciiSpaceTab
theorem Tryz.gTabA : ∃ g, Tryz.prog.globalNamed "strings.asciiSpace" = some g := ⟨1, by kernel_rfl⟩
theorem Ta.belowS {w w' : World} (h : Ta w) (hb : Below w.heap.size w w') : Ta w' := by
  unfold Ta Lib.TabIs World.var? at h ⊢
  obtain ⟨g, hg⟩ := Tryz.gTabA
  rw [hg] at h ⊢
  simp only [Option.bind_some] at h ⊢
  have hlt : g < w.heap.size := by
    rcases Nat.lt_or_ge g w.heap.size with h' | h'
    · exact h'
    · rw [Array.getElem?_eq_none h'] at h
      simp at h
  rw [hb.block g hlt]
  exact h
structure Tv (W : World) : Prop where
  tb : Tb W
  ta : Ta W

abbrev laid7 : {H : Type} → List (String × DataW H) := [("math/bits.deBruijn32tab", Rows.laid_math_bits_deBruijn32tab), ("math/bits.deBruijn64tab", Rows.laid_math_bits_deBruijn64tab), ("internal/strconv.uint64pow10", Rows.laid_internal_strconv_uint64pow10), ("strconv.ErrRange", Rows.laid_strconv_ErrRange), ("strconv.ErrSyntax", Rows.laid_strconv_ErrSyntax), ("unicode.White_Space", Rows.laid_unicode_White_Space), ("strings.asciiSpace", Rows.laid_strings_asciiSpace)]
theorem Tryz.tabGA : ∃ g t e, Tryz.prog.globalNamed "strings.asciiSpace" = some g ∧ (Tryz.prog.globals[g]?).map (·.type) = some t ∧ Tryz.prog.underlying t = some (.array 256 e) ∧ Tryz.prog.underlying e = some (.int .u8) ∧ Tryz.prog.cellsOf e = 1 ∧ Tryz.prog.cellsOf t = 256 :=
  ⟨1, 156, 5, by kernel_rfl, by kernel_rfl, by kernel_rfl, by kernel_rfl, by kernel_rfl, by kernel_rfl⟩
theorem tb_of_met7 {W : World} (h : laidMet Tryz.prog laid7 W) : Tb W ∧ Ta W := by
  obtain ⟨ps, ⟨g0, t0, cs0, f0, p0, q0, hg0, ht0, hv0, hd0, ⟨g1, t1, cs1, f1, p1, q1, hg1, ht1, hv1, hd1, ⟨g2, t2, cs2, f2, p2, q2, hg2, ht2, hv2, hd2, ⟨g3, t3, cs3, f3, p3, q3, hg3, ht3, hv3, hd3, ⟨g4, t4, cs4, f4, p4, q4, hg4, ht4, hv4, hd4, ⟨g5, t5, cs5, f5, p5, q5, hg5, ht5, hv5, hd5, ⟨g6, t6, cs6, f6, p6, q6, hg6, ht6, hv6, hd6, _, _⟩, _⟩, _⟩, _⟩, _⟩, _⟩, _⟩, _, _⟩ := h
  constructor
  · obtain ⟨g, t, e, hg, hty, ht, he, hce, hct⟩ := Tryz.tabG
    obtain rfl := Option.some.inj (hg.symm.trans hg2)
    obtain rfl := Option.some.inj (hty.symm.trans ht2)
    have hdat : (Rows.laid_internal_strconv_uint64pow10 : DataW Unit) = Lib.tabData .u64 Lib.pow10Tab := by kernel_rfl
    unfold Tb Lib.TabIs
    rw [hv2]
    rw [hdat] at hd2
    rw [← Lib.cells_of_tab ht he hce hct hd2]
  · obtain ⟨g, t, e, hg, hty, ht, he, hce, hct⟩ := Tryz.tabGA
    obtain rfl := Option.some.inj (hg.symm.trans hg6)
    obtain rfl := Option.some.inj (hty.symm.trans ht6)
    have hdat : (Rows.laid_strings_asciiSpace : DataW Unit) = Lib.tabData .u8 Lib.asciiSpaceTab := by kernel_rfl
    unfold Ta Lib.TabIs
    rw [hv6]
    rw [hdat] at hd6
    rw [← Lib.cells_of_tab ht he hce hct hd6]
theorem tb_of_laid7 {W : World} (h : laidMetH Tryz.prog laid7 W) : Tv W := by
  rw [MakeChecks.laidMetH_plain _ _ _ (by kernel_rfl)] at h
  exact ⟨(tb_of_met7 h).1, (tb_of_met7 h).2⟩
theorem door_met7 (os : Os) (args : Array Value) : laidMetH Tryz.prog laid7 ((World.doorLaid Tryz.prog 4000 os).forCall (fun _ _ => 0) ⟨#[], args, []⟩).memory :=
  laidMetH_of_parts3 (fuel := 8) (laidMet_of_run' 8 (by kernel_rfl) (by kernel_rfl)) (by kernel_rfl) (by kernel_rfl)
end Go.Proofs.YtmgiecoeeidgoaaGreatDoor
