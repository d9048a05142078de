/-
  THE CONTRACTS of hash.words, hash.Pair, hash.One: texts and their numbers. CONDITIONS: the library's table of the powers of ten reads as it is laid (Tb).
-/
import Derived.Test.YthjbebngedajiaaDoorHOf
import Derived.Test.YthjbebngedajiaaDoorSKit
import Derived.Test.YthjbebngedajiaaDoorIKit
import Derived.Test.YthjbebngedajiaaDoorDoorT
import Derived.Test.YthjbebngedajiaaDoorShelf
import Derived.Lib.AppendIntMem
namespace Go.Proofs.YthjbebngedajiaaDoor
open Go.RowKit
open Go.ChangeShapes Go.WideShapes Go.ChangeAt

theorem grow_below (w : World) (k : Nat) (os : Array Obj) : Below w.heap.size w (Go.Sort.grow (w.drewN k) os) := by
  exact Go.Lib.below_grow _ _ (Nat.le_refl _) _ _
theorem itoa_any (n : Int) (h0 : -9223372036854775808 ≤ n) (h1 : n ≤ 9223372036854775807) (w : World) (ht : Tb w) :
    Calls Tryd.prog 92 #[.int .i64 n] w fun e w' => e = .returned (.string ⟨(Go.Lib.itoa n).toArray⟩) ∧ Below w.heap.size w w' := by
  refine (Tryd.strconv_Itoa n h0 h1 w ht).mono ?_
  rintro e w' ⟨rfl, k, os, rfl⟩
  exact ⟨rfl, grow_below _ _ _⟩

/-- The texts of numbers. -/
def strsOf (l : List Int) : List ByteArray := l.map fun n => ⟨(Go.Lib.itoa n).toArray⟩
theorem strsOf_len (l : List Int) : (strsOf l).length = l.length := by simp [strsOf]
theorem strsOf_take (l : List Int) {j : Nat} (hj : j < l.length) : strsOf (l.take (j + 1)) = strsOf (l.take j) ++ [⟨(Go.Lib.itoa (l.getD j 0)).toArray⟩] := by
  rw [List.take_succ_eq_append_getElem hj]
  unfold strsOf
  rw [List.map_append, List.getD_eq_getElem?_getD, List.getElem?_eq_getElem hj]
  rfl
theorem strsOf_lists (l : List Int) : (strsOf l).map (·.data.toList) = l.map Go.Lib.itoa := by
  unfold strsOf
  rw [List.map_map]
  apply List.map_congr_left
  intro n _
  simp

set_option maxHeartbeats 2000000 in
set_option maxRecDepth 100000 in
theorem words_any (s : SlV Int) (w : World) (hs : IntsAt w s) (h1 : 1 ≤ s.xs.length) (h3 : s.xs.length ≤ 3) (hr : ∀ n ∈ s.xs, -9223372036854775808 ≤ n ∧ n ≤ 9223372036854775807) (hl : (Go.Lib.join (s.xs.map Go.Lib.itoa) [47]).length ≤ 1000) (ht : Tb w) :
    Calls Tryd.prog 84 #[.slice s.A s.xs.length s.c] w fun e w' => e = .returned (.string ⟨(Go.Lib.join (s.xs.map Go.Lib.itoa) [47]).toArray⟩) ∧ Below w.heap.size w w' := by
  obtain ⟨b, off, hA, hb, hcells⟩ := hs.row (by omega)
  have Ht := hid ht
  have Hl := hid hl
  have Hr := hid hr
  clear ht hl hr hs
  rw [hA]
  clear hA
  go_enter Tryd.func84, Tryd.ntmps84
  go_wp2_with fail
  go_loopw [3, 8] (fun v i wr => ∃ j : Nat, j ≤ s.xs.length ∧ i = .int .i64 j ∧ Ow cellS 1 w.heap.size 9 wr v (strsOf (s.xs.take j)) ∧ Below w.heap.size w wr) (fun _ i _ => s.xs.length - (intOf i).toNat)
  case atStart => exact ⟨0, Nat.zero_le _, rfl, Ow.nil _ _ _ _ _, Below.refl _ _⟩
  case round =>
    obtain ⟨j, hj, rfl, hO, hbr⟩ := hrel
    have hz0 := hbr.size
    have HO := hid hO
    have Hb := hid hbr
    clear hO
    by_cases hlt : j < s.xs.length
    · have hcell := (hbr.cell (p := ⟨b, off + j, none⟩) hb).trans (hcells j hlt)
      have hrj := Hr.out _ (List.getElem_mem hlt)
      rw [show s.xs[j] = s.xs.getD j 0 by rw [List.getD_eq_getElem?_getD, List.getElem?_eq_getElem hlt]; rfl] at hrj
      have hst := strsOf_take s.xs hlt
      have hlL : (strsOf (s.xs.take j)).length ≤ 3 := by rw [strsOf_len, List.length_take]; omega
      generalize s.xs.getD j 0 = n at *
      generalize strsOf (s.xs.take j) = L at *
      have Hst := hid hst
      have HI := hid (itoa_any n hrj.1 hrj.2 wr (Ht.out.belowS hbr))
      clear hst hrj hbr
      go_wp2_with fail
      refine HI.out.mono ?_
      rintro e w1 ⟨rfl, hb1⟩
      have hz1 := hb1.size
      have Hb1 := hid (Below.step Hb.out hb1 hz0)
      have HO1 := hid (HO.out.belowS hb1)
      clear hb1
      go_wp2_with (at_builtin; refine appS _ w.heap.size _ L _ HO1.out rfl _ _ rfl rfl rfl ?_ ?_ ?_ ?_)
      any_goals (first | (with_reducible rfl) | omega | exact World.size_alloc _ _ | (show _ ≤ _; rw [World.size_alloc]; omega))
      intro v8 w8 h8 f8 o8
      have hb8 : Below w.heap.size w w8 := Hb1.out.trans (f8.below0 (by omega) (fun i hi => HO1.out.ge _ hi))
      go_wp2_with fail
      go_roundw
      case rel => exact ⟨j + 1, by omega, by go_num, by rw [Hst.out]; exact h8, hb8⟩
      case measure => simp [intOf]; omega
    · obtain rfl : j = s.xs.length := by omega
      rw [List.take_length] at HO
      have hne : 0 < (strsOf s.xs).length := by rw [strsOf_len]; omega
      obtain ⟨g, og, cap, rfl, hc1, hc2, hg1, hg2, hg3, _, _⟩ := HO.out.get hne
      have HJ := hid (Tryd.strings_Join g og cap (strsOf s.xs) ⟨#[47]⟩ wr (Ow.strCells HO.out hne) hg2 (by rw [strsOf_len]; omega) hc1 (by rw [strsOf_lists]; have := Hl.out; simp only at this ⊢; omega))
      rw [strsOf_lists, strsOf_len] at HJ
      rw [strsOf_len]
      clear hc1 hc2 hg1 hg2 hg3 hne HO hbr
      go_wp2_with fail
      refine HJ.out.mono ?_
      rintro e w1 ⟨rfl, hb1⟩
      go_wp2_with fail
      go_ret
      exact ⟨rfl, Below.step Hb.out hb1 hz0⟩
end Go.Proofs.YthjbebngedajiaaDoor
