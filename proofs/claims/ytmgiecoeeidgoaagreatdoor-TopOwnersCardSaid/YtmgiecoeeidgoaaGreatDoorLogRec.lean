/-
  THE CONTRACT of log.record: what a record of a deed is. CONDITIONS: a key below 8, a text of at most 12 bytes; the library's table of the powers of ten reads as it is laid (Tb).
-/
import Derived.Test.YtmgiecoeeidgoaaGreatDoorLogLaw
import Derived.Test.YtmgiecoeeidgoaaGreatDoorSKit
import Derived.Test.YtmgiecoeeidgoaaGreatDoorDoorT
import Derived.Test.YtmgiecoeeidgoaaGreatDoorShelf
import Derived.Lib.ConvBytes
import Derived.Lib.ItoaLen
import Derived.Lib.AppendIntMem
import Derived.Deep.RegionWith
import Derived.Deep.DeepCutAuto
import Derived.Deep.CutBlock
namespace Go.Proofs.YtmgiecoeeidgoaaGreatDoor
open Go.RowKit
open Go.ChangeShapes Go.WideShapes Go.ChangeAt

theorem grow_below (w : World) (k : Nat) (os : Array Obj) : Below w.heap.size w (Go.Sort.grow (w.drewN k) os) := by
  exact Go.Lib.below_grow _ _ (Nat.le_refl _) _ _
theorem itoa_any (n : Int) (h0 : -9223372036854775808 ≤ n) (h1 : n ≤ 9223372036854775807) (w : World) (ht : Tb w) :
    Calls Tryz.prog 75 #[.int .i64 n] w fun e w' => e = .returned (.string ⟨(Go.Lib.itoa n).toArray⟩) ∧ Below w.heap.size w w' := by
  refine (Tryz.strconv_Itoa n h0 h1 w ht).mono ?_
  rintro e w' ⟨rfl, k, os, rfl⟩
  exact ⟨rfl, grow_below _ _ _⟩
theorem bytesWorld_below (w : World) (e : TypeId) (s : ByteArray) : Below w.heap.size w (Go.Lib.bytesWorld w e s) :=
  ⟨rfl, rfl, rfl, by rw [Go.Lib.bytesWorld_size]; omega, fun i hi => Go.Lib.bytesWorld_at_old w e s i hi⟩
/-- a row of one string, just laid -/
theorem Ow.oneStr (w : World) (s : ByteArray) : Ow cellB 1 w.heap.size 9 (w.alloc (.cells #[.string s] 9)) (.slice (some ⟨w.heap.size, 0, none⟩) 1 1) [s] :=
  ⟨_, 1, rfl, Nat.le_refl _, by decide, .inr ⟨w.heap.size, 0, #[.string s], rfl, Nat.le_refl _, Blk.new _ _ _, Nat.le_refl _, fun i hi f hf => by
    have hi' : i < 1 := hi
    obtain rfl : i = 0 := by omega
    obtain rfl : f = 0 := by omega
    rfl⟩⟩

/-- the words of a record, as texts -/
def recS (k : Nat) (g : Bool) (l : List UInt8) : List ByteArray := mkB (Lib.itoa (k : Int)) :: ((if g then [mkB [45]] else []) ++ l.map fun b => mkB (Lib.itoa (b.toNat : Int)))
theorem recS_lists (k : Nat) (g : Bool) (t : ByteArray) : (recS k g t.data.toList).map (·.data.toList) = recW k g t := by
  unfold recS recW
  rw [List.map_cons, List.map_append, List.map_map]
  cases g <;> rfl
theorem recS_snoc (k : Nat) (g : Bool) (l : List UInt8) (b : UInt8) : recS k g (l ++ [b]) = recS k g l ++ [mkB (Lib.itoa (b.toNat : Int))] := by
  unfold recS
  rw [List.map_append, List.map_singleton, List.cons_append, List.append_assoc]
theorem recS_len (k : Nat) (g : Bool) (l : List UInt8) : (recS k g l).length ≤ 2 + l.length := by
  unfold recS
  rw [List.length_cons, List.length_append, List.length_map]
  cases g <;> simp <;> omega

set_option maxHeartbeats 4000000 in
set_option maxRecDepth 100000 in
theorem record_any (k : Nat) (hk : k < 8) (g : Bool) (t : ByteArray) (ht : t.size ≤ 12) (w : World) (hT : Tb w) :
    Calls Tryz.prog 64 #[.int .i64 k, .bool g, .string t] w fun e w' => e = .returned (.string (mkB (recL k g t))) ∧ Below w.heap.size w w' := by
  have HT := hid (fun W (hW : Below w.heap.size w W) => hT.belowS hW)
  have HI := hid (itoa_any k (by omega) (by omega) w hT)
  have Hk := hid hk
  obtain ⟨R, hR⟩ : ∃ R, mkB (recL k g t) = R := ⟨_, rfl⟩
  rw [hR]
  have HR := hid hR
  clear hT hk hR
  go_enter Tryz.func64, Tryz.ntmps64
  go_wp2_with fail
  refine HI.out.mono ?_
  rintro e w1 ⟨rfl, hb1⟩
  have hz1 := hb1.size
  have Hb1 := hid hb1
  clear hb1 HI
  go_upto_if 13 with fail
  have HO1 := hid ((Ow.oneStr w1 ⟨(Lib.itoa (k : Int)).toArray⟩).mono hz1)
  obtain ⟨w2, hw2⟩ : ∃ w2 : World, w2 = w1.alloc (.cells #[.string ⟨(Lib.itoa (k : Int)).toArray⟩] 9) := ⟨_, rfl⟩
  rw [← hw2] at HO1 ⊢
  have Hb2 := hid (show Below w.heap.size w w2 by rw [hw2]; exact Hb1.out.alloc (by omega) _)
  have hz2 : w1.heap.size < w2.heap.size := by rw [hw2]; simp
  clear hw2
  go_cut [7] (fun v wx => Ow cellB 1 w.heap.size 9 wx v (recS k g []) ∧ Below w.heap.size w wx)
  case first =>
    cases g
    · go_wp2_with fail
      go_meet
      exact ⟨HO1.out, Hb2.out⟩
    · go_wp2_with (at_builtin; refine appB _ w.heap.size _ [⟨(Lib.itoa (k : Int)).toArray⟩] ⟨#[45]⟩ HO1.out rfl _ _ rfl rfl rfl ?_ ?_ ?_ ?_)
      any_goals (first | (with_reducible rfl) | omega | exact World.size_alloc _ _ | (show _ ≤ _; rw [World.size_alloc]; omega) | (show [_].length ≤ _; simp))
      intro v8 w8 h8 f8 o8
      have hb8 : Below w.heap.size w w8 := Hb2.out.trans (f8.below0 (by omega) (fun i hi => HO1.out.ge _ hi))
      go_wp2_with fail
      go_meet
      exact ⟨h8, hb8⟩
  case rest =>
  obtain ⟨hO, hb3⟩ := hcut
  obtain ⟨w3, rfl⟩ : ∃ w3 : World, w3 = wc := ⟨_, rfl⟩
  clear HO1 Hb1 Hb2
  have hz3 := hb3.size
  have HO3 := hid hO
  have Hb3 := hid hb3
  have hcv := Go.Lib.run_convert_string_bytes (P := Tryz.prog) w3 9 121 5 t Tryz.underlying9 Tryz.underlying121 Tryz.underlying5
  have hbw := bytesWorld_below w3 5 t
  have hbz : (Go.Lib.bytesWorld w3 5 t).heap.size = w3.heap.size + 1 := Go.Lib.bytesWorld_size _ _ _
  have Hc := hid (fun j (hj : j < t.size) => Go.Lib.bytesWorld_cell w3 5 t j hj)
  generalize Go.Lib.bytesWorld w3 5 t = w4 at *
  generalize grownCap w3 t.size 0 5 = cap at *
  have Hb4 := hid (Below.step hb3 hbw hz3)
  have HO4 := hid (hO.belowS hbw)
  have Hft := hid (show foot u7 ≠ some w3.heap.size from fun h => by have := (HO3.out.lt h).2; omega)
  have Hz4 := hid hbz
  have hz34 : w3.heap.size < w4.heap.size := by omega
  clear hO hb3 hbw hbz HO3
  go_wp2_with fail
  go_loopw [7, 9, 20] (fun v _ i wr => ∃ j : Nat, j ≤ t.size ∧ i = .int .i64 j ∧ Ow cellB 1 w.heap.size 9 wr v (recS k g (t.data.toList.take j)) ∧ foot v ≠ some w3.heap.size ∧ Below w.heap.size w wr ∧ w4.heap.size ≤ wr.heap.size ∧ ∀ i, i < t.size → wr.cell? ⟨w3.heap.size, i, none⟩ = some (.int .u8 (t.data.toList.getD i 0).toNat)) (fun _ _ i _ => t.size - (intOf i).toNat)
  case atStart => exact ⟨0, Nat.zero_le _, rfl, HO4.out, Hft.out, Hb4.out, Nat.le_refl _, Hc.out⟩
  case round =>
    obtain ⟨j, hj, rfl, hO, hft, hbr, hzr, hcl⟩ := hrel
    have hz0 := hbr.size
    have HO := hid hO
    have Hb := hid hbr
    have Hcl := hid hcl
    have Hft := hid hft
    clear hO hbr hft hcl
    by_cases hlt : j < t.size
    · have hcell := Hcl.out j hlt
      have hjl : j < t.data.toList.length := hlt
      have hst : recS k g (t.data.toList.take (j + 1)) = recS k g (t.data.toList.take j) ++ [mkB (Lib.itoa ((t.data.toList.getD j 0).toNat : Int))] := by
        rw [take_snocD 0 hjl, recS_snoc]
      have hlL := recS_len k g (t.data.toList.take j)
      rw [List.length_take] at hlL
      generalize t.data.toList.getD j 0 = c at *
      generalize recS k g (t.data.toList.take j) = L at *
      have hc256 := c.toNat_lt
      have Hst := hid hst
      have HI := hid (itoa_any (c.toNat : Int) (by omega) (by omega) wr (HT.out wr Hb.out))
      have hw3 : w3.heap.size < wr.heap.size := by omega
      clear hst hjl
      go_wp2_with fail
      refine HI.out.mono ?_
      rintro e w5 ⟨rfl, hb5⟩
      have hz5 := hb5.size
      have Hb5 := hid (Below.step Hb.out hb5 hz0)
      have HO5 := hid (HO.out.belowS hb5)
      have Hcl5 := hid (fun i (hi : i < t.size) => (hb5.cell (p := ⟨w3.heap.size, i, none⟩) hw3).trans (Hcl.out i hi))
      clear hb5 HI
      go_wp2_with (at_builtin; refine appB _ w.heap.size _ L _ HO5.out rfl _ _ rfl rfl rfl ?_ ?_ ?_ ?_)
      any_goals (first | (with_reducible rfl) | omega | exact World.size_alloc _ _ | (show _ ≤ _; rw [World.size_alloc]; omega))
      intro v8 w8 h8 f8 o8
      have hb8 : Below w.heap.size w w8 := Hb5.out.trans (f8.below0 (by omega) (fun i hi => HO5.out.ge _ hi))
      have hz8 := f8.size
      have Hcl8 := hid (fun i (hi : i < t.size) => (f8.cell (p := ⟨w3.heap.size, i, none⟩) (by show w3.heap.size < _; omega) (fun h => Hft.out h.symm)).trans (Hcl5.out i hi))
      have Hft8 := hid (show foot v8 ≠ some w3.heap.size from fun h => by
        rcases o8 with o | o
        · exact Hft.out (by rw [← o, h])
        · rw [h] at o
          injection o with o
          omega)
      go_wp2_with fail
      go_roundw
      case rel => exact ⟨j + 1, by omega, by go_num, by rw [Hst.out]; exact h8, Hft8.out, hb8, by omega, Hcl8.out⟩
      case measure => simp [intOf]; omega
    · obtain rfl : j = t.size := by omega
      have e1 : t.data.toList.take t.size = t.data.toList := List.take_length
      rw [e1] at HO
      have hlists := recS_lists k g t
      have hn0 : 0 < (recS k g t.data.toList).length := by unfold recS; simp
      have hn2 : (recS k g t.data.toList).length ≤ 14 := by
        have := recS_len k g t.data.toList
        have e : t.data.toList.length = t.size := rfl
        omega
      have hle := recB_len k g t (by have := Hk.out; omega)
      have hB : recB k g t = Lib.join ((recS k g t.data.toList).map (·.data.toList)) [32] := by rw [hlists]; rfl
      generalize recS k g t.data.toList = L at *
      obtain ⟨g1, og, cp, rfl, hc1, hc2, hg1, hg2, hg3, _, _⟩ := HO.out.get hn0
      have HJ := hid (Tryz.strings_Join g1 og cp L ⟨#[32]⟩ wr (Ow.strCells HO.out hn0) hg2 (by omega) hc1 (by show (Lib.join (L.map (·.data.toList)) [32]).length ≤ _; rw [← hB]; omega))
      change Hid (Calls _ _ _ wr fun e w' => e = .returned (.string ⟨(Lib.join (L.map (·.data.toList)) [32]).toArray⟩) ∧ _) at HJ
      rw [← hB] at HJ
      have hq : ∀ W, (Op.stringOp .add (mkB (recB k g t)) ⟨#[10]⟩).run Tryz.prog W = .ok (.string R) W := fun W => by
        rw [run_string_add_sum W _ _ (by rw [mkB_size]; show _ + 1 ≤ _; omega), ← HR.out]
        rfl
      change Hid (Calls _ _ _ wr fun e w' => e = .returned (.string (mkB (recB k g t))) ∧ _) at HJ
      have Hl := hid hn2
      clear hc1 hc2 hg1 hg2 hg3 hn0 HO hlists hB e1 hn2 Hcl
      generalize recB k g t = RB at *
      go_wp2_with fail
      refine HJ.out.mono ?_
      rintro e w5 ⟨rfl, hb5⟩
      go_wp2_with fail
      go_ret
      exact ⟨rfl, Below.step Hb.out hb5 hz0⟩
end Go.Proofs.YtmgiecoeeidgoaaGreatDoor
