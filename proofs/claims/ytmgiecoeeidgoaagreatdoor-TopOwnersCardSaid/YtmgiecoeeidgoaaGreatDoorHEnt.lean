/-
  THE CONTRACTS of hash.Of and hash.Text: the number of a text. CONDITIONS: the text has at most 1000 bytes (Of).
  THE CONTRACTS of hash.words, hash.Pair, hash.One: texts and their numbers. CONDITIONS: the library's table of the powers of ten reads as it is laid (Tb).
  THE CONTRACTS of hash.Pair, hash.Two, hash.One, hash.Entry. CONDITIONS: the library's table of the powers of ten reads as it is laid (Tb).
  THE CONTRACTS of hash.One and hash.Entry. CONDITIONS: the library's table of the powers of ten reads as it is laid (Tb).
-/
import Derived.Test.YtmgiecoeeidgoaaGreatDoorHLaw
import Derived.Test.YtmgiecoeeidgoaaGreatDoorEntry
import Derived.Lib.ConvBytes
import Derived.Test.YtmgiecoeeidgoaaGreatDoorSKit
import Derived.Test.YtmgiecoeeidgoaaGreatDoorIKit
import Derived.Test.YtmgiecoeeidgoaaGreatDoorDoorT
import Derived.Test.YtmgiecoeeidgoaaGreatDoorShelf
import Derived.Lib.AppendIntMem
import Derived.Test.YtmgiecoeeidgoaaGreatDoorJoin
import Derived.Lib.ItoaLen
import Derived.Deep.RegionWith
import Derived.Test.YtmgiecoeeidgoaaGreatDoorJoinLaw
import Derived.Deep.DeepCutAuto
import Derived.Deep.CutBlock
namespace Go.Proofs.YtmgiecoeeidgoaaGreatDoor
open Go.RowKit
open Go.ChangeShapes Go.WideShapes Go.ChangeAt

theorem bytesOf_len (s : ByteArray) : (bytesOf s).length = s.size := by simp [bytesOf]
theorem hash_take (s : ByteArray) {j : Nat} (hj : j < s.size) : hashL ((bytesOf s).take (j + 1)) = hstep (hashL ((bytesOf s).take j)) ((bytesOf s).getD j 0) := by
  have hl : j < (bytesOf s).length := by rw [bytesOf_len]; exact hj
  rw [List.take_succ_eq_append_getElem hl, hash_snoc]
  congr 1
  rw [List.getD_eq_getElem?_getD, List.getElem?_eq_getElem hl]
  rfl
theorem bytesWorld_below (w : World) (e : TypeId) (s : ByteArray) : Below w.heap.size w (Go.Lib.bytesWorld w e s) :=
  ⟨rfl, rfl, rfl, by rw [Go.Lib.bytesWorld_size]; omega, fun i hi => Go.Lib.bytesWorld_at_old w e s i hi⟩

set_option maxRecDepth 100000 in
theorem of_any (s : ByteArray) (w : World) (hs : s.size ≤ 1000) : Calls Tryz.prog 52 #[.string s] w fun e w' => e = .returned (.int .i64 (hashL (bytesOf s) : Nat)) ∧ Below w.heap.size w w' := by
  have hcv := Go.Lib.run_convert_string_bytes (P := Tryz.prog) w 9 121 5 s Tryz.underlying9 Tryz.underlying121 Tryz.underlying5
  have hb := bytesWorld_below w 5 s
  have Hc := hid (fun j (hj : j < s.size) => Go.Lib.bytesWorld_cell w 5 s j hj)
  generalize Go.Lib.bytesWorld w 5 s = w1 at *
  generalize grownCap w s.size 0 5 = cap at *
  have Hb := hid hb
  clear hb
  go_enter Tryz.func52, Tryz.ntmps52
  go_wp2_with fail
  go_loopw [3, 9] (fun n i wr => ∃ j : Nat, j ≤ s.size ∧ i = .int .i64 j ∧ n = .int .i64 (hashL ((bytesOf s).take j) : Nat) ∧ wr = w1) (fun _ i _ => s.size - (intOf i).toNat)
  case atStart => exact ⟨0, Nat.zero_le _, rfl, rfl, rfl⟩
  case round =>
    obtain ⟨j, hj, rfl, rfl, rfl⟩ := hrel
    by_cases hlt : j < s.size
    · have hcell := Hc.out j hlt
      have hst := hash_take s hlt
      have hn := hash_lt ((bytesOf s).take j)
      rw [show (s.data.toList.getD j 0) = (bytesOf s).getD j 0 from rfl] at hcell
      generalize (bytesOf s).getD j 0 = c at *
      generalize hashL ((bytesOf s).take j) = n at *
      have hc256 := c.toNat_lt
      have hx := bits_xor_i64_nat n c.toNat hn (by omega)
      have hxl := xor_lt32 (b := c.toNat) hn (by omega)
      have Hst := hid hst
      unfold hstep at Hst
      clear hst
      generalize n ^^^ c.toNat = y at *
      go_wp2_with fail
      go_roundw
      case rel =>
        refine ⟨j + 1, by omega, by go_num, ?_, trivial⟩
        rw [Hst.out]
        go_num
      case measure => simp [intOf]; omega
    · obtain rfl : j = s.size := by omega
      have HF := hid (show hashL ((bytesOf s).take s.size) = hashL (bytesOf s) by rw [← bytesOf_len, List.take_length])
      go_wp2_with fail
      go_ret
      exact ⟨by rw [HF.out]; rfl, Hb.out⟩

/-- What hash.Text tells: the number, the fault. -/
def textN (s : ByteArray) : Int := if s.size ≤ 60 then (hashL (bytesOf s) : Nat) else 0
def textE (s : ByteArray) : Int := if s.size ≤ 60 then 0 else 4
end Go.Proofs.YtmgiecoeeidgoaaGreatDoor
namespace Go.Proofs.YtmgiecoeeidgoaaGreatDoor
open Go.RowKit
open Go.ChangeShapes Go.WideShapes Go.ChangeAt

theorem grow_below (w : World) (k : Nat) (os : Array Obj) : Below w.heap.size w (Go.Sort.grow (w.drewN k) os) := by
  exact Go.Lib.below_grow _ _ (Nat.le_refl _) _ _
theorem itoa_any (n : Int) (h0 : -9223372036854775808 ≤ n) (h1 : n ≤ 9223372036854775807) (w : World) (ht : Tb w) :
    Calls Tryz.prog 75 #[.int .i64 n] w fun e w' => e = .returned (.string ⟨(Go.Lib.itoa n).toArray⟩) ∧ Below w.heap.size w w' := by
  refine (Tryz.strconv_Itoa n h0 h1 w ht).mono ?_
  rintro e w' ⟨rfl, k, os, rfl⟩
  exact ⟨rfl, grow_below _ _ _⟩

/-- The texts of numbers. -/
def strsOf (l : List Int) : List ByteArray := l.map fun n => ⟨(Go.Lib.itoa n).toArray⟩
theorem strsOf_len (l : List Int) : (strsOf l).length = l.length := by simp [strsOf]
theorem strsOf_take (l : List Int) {j : Nat} (hj : j < l.length) : strsOf (l.take (j + 1)) = strsOf (l.take j) ++ [⟨(Go.Lib.itoa (l.getD j 0)).toArray⟩] := by
  rw [List.take_succ_eq_append_getElem hj]
  unfold strsOf
  rw [List.map_append, List.getD_eq_getElem?_getD, List.getElem?_eq_getElem hj]
  rfl
theorem strsOf_lists (l : List Int) : (strsOf l).map (·.data.toList) = l.map Go.Lib.itoa := by
  unfold strsOf
  rw [List.map_map]
  apply List.map_congr_left
  intro n _
  simp

set_option maxHeartbeats 2000000 in
set_option maxRecDepth 100000 in
theorem words_any (s : SlV Int) (w : World) (hs : IntsAt w s) (h1 : 1 ≤ s.xs.length) (h3 : s.xs.length ≤ 3) (hr : ∀ n ∈ s.xs, -9223372036854775808 ≤ n ∧ n ≤ 9223372036854775807) (hl : (Go.Lib.join (s.xs.map Go.Lib.itoa) [47]).length ≤ 1000) (ht : Tb w) :
    Calls Tryz.prog 53 #[.slice s.A s.xs.length s.c] w fun e w' => e = .returned (.string ⟨(Go.Lib.join (s.xs.map Go.Lib.itoa) [47]).toArray⟩) ∧ Below w.heap.size w w' := by
  obtain ⟨b, off, hA, hb, hcells⟩ := hs.row (by omega)
  have Ht := hid ht
  have Hl := hid hl
  have Hr := hid hr
  clear ht hl hr hs
  rw [hA]
  clear hA
  go_enter Tryz.func53, Tryz.ntmps53
  go_wp2_with fail
  go_loopw [3, 8] (fun v i wr => ∃ j : Nat, j ≤ s.xs.length ∧ i = .int .i64 j ∧ Ow cellB 1 w.heap.size 9 wr v (strsOf (s.xs.take j)) ∧ Below w.heap.size w wr) (fun _ i _ => s.xs.length - (intOf i).toNat)
  case atStart => exact ⟨0, Nat.zero_le _, rfl, Ow.nil _ _ _ _ _, Below.refl _ _⟩
  case round =>
    obtain ⟨j, hj, rfl, hO, hbr⟩ := hrel
    have hz0 := hbr.size
    have HO := hid hO
    have Hb := hid hbr
    clear hO
    by_cases hlt : j < s.xs.length
    · have hcell := (hbr.cell (p := ⟨b, off + j, none⟩) hb).trans (hcells j hlt)
      have hrj := Hr.out _ (List.getElem_mem hlt)
      rw [show s.xs[j] = s.xs.getD j 0 by rw [List.getD_eq_getElem?_getD, List.getElem?_eq_getElem hlt]; rfl] at hrj
      have hst := strsOf_take s.xs hlt
      have hlL : (strsOf (s.xs.take j)).length ≤ 3 := by rw [strsOf_len, List.length_take]; omega
      generalize s.xs.getD j 0 = n at *
      generalize strsOf (s.xs.take j) = L at *
      have Hst := hid hst
      have HI := hid (itoa_any n hrj.1 hrj.2 wr (Ht.out.belowS hbr))
      clear hst hrj hbr
      go_wp2_with fail
      refine HI.out.mono ?_
      rintro e w1 ⟨rfl, hb1⟩
      have hz1 := hb1.size
      have Hb1 := hid (Below.step Hb.out hb1 hz0)
      have HO1 := hid (HO.out.belowS hb1)
      clear hb1
      go_wp2_with (at_builtin; refine appB _ w.heap.size _ L _ HO1.out rfl _ _ rfl rfl rfl ?_ ?_ ?_ ?_)
      any_goals (first | (with_reducible rfl) | omega | exact World.size_alloc _ _ | (show _ ≤ _; rw [World.size_alloc]; omega))
      intro v8 w8 h8 f8 o8
      have hb8 : Below w.heap.size w w8 := Hb1.out.trans (f8.below0 (by omega) (fun i hi => HO1.out.ge _ hi))
      go_wp2_with fail
      go_roundw
      case rel => exact ⟨j + 1, by omega, by go_num, by rw [Hst.out]; exact h8, hb8⟩
      case measure => simp [intOf]; omega
    · obtain rfl : j = s.xs.length := by omega
      rw [List.take_length] at HO
      have hne : 0 < (strsOf s.xs).length := by rw [strsOf_len]; omega
      obtain ⟨g, og, cap, rfl, hc1, hc2, hg1, hg2, hg3, _, _⟩ := HO.out.get hne
      have HJ := hid (Tryz.strings_Join g og cap (strsOf s.xs) ⟨#[47]⟩ wr (Ow.strCells HO.out hne) hg2 (by rw [strsOf_len]; omega) hc1 (by rw [strsOf_lists]; have := Hl.out; simp only at this ⊢; omega))
      rw [strsOf_lists, strsOf_len] at HJ
      rw [strsOf_len]
      clear hc1 hc2 hg1 hg2 hg3 hne HO hbr
      go_wp2_with fail
      refine HJ.out.mono ?_
      rintro e w1 ⟨rfl, hb1⟩
      go_wp2_with fail
      go_ret
      exact ⟨rfl, Below.step Hb.out hb1 hz0⟩
end Go.Proofs.YtmgiecoeeidgoaaGreatDoor
namespace Go.Proofs.YtmgiecoeeidgoaaGreatDoor
open Go.RowKit
open Go.ChangeShapes Go.WideShapes Go.ChangeAt

def I64 (n : Int) : Prop := -9223372036854775808 ≤ n ∧ n ≤ 9223372036854775807
theorem itoa_le {n : Int} (h : I64 n) : (Go.Lib.itoa n).length ≤ 21 := Go.Lib.itoa_length_le n h.1 h.2
theorem join2_len (x y : List UInt8) : (Go.Lib.join [x, y] [47]).length = x.length + 1 + y.length := by
  rw [Go.Lib.join_cons]; simp [Go.Lib.joinTail]; omega
theorem join3_len (x y z : List UInt8) : (Go.Lib.join [x, y, z] [47]).length = x.length + 1 + y.length + 1 + z.length := by
  rw [Go.Lib.join_cons]; simp [Go.Lib.joinTail]; omega
theorem intsAt_new (W : World) (T : TypeId) (l : List Int) (hl : l.length ≤ 100) : IntsAt (W.alloc (.cells (ints l) T)) ⟨some ⟨W.heap.size, 0, none⟩, l.length, l⟩ :=
  ⟨fun _ => ⟨W.heap.size, 0, rfl, by simp, fun i hi => by rw [Nat.zero_add, (Blk.new W T (ints l)).cell i]; exact ints_get l i hi⟩, by unfold maxLen; show l.length ≤ _; omega⟩

theorem words2 (a b : Int) (ha : I64 a) (hb : I64 b) (N : Nat) (W : World) (hN : W.heap.size = N) (ht : Tb W) :
    Calls Tryz.prog 53 #[.slice (some ⟨N, 0, none⟩) 2 2] (W.alloc (.cells #[.int .i64 a, .int .i64 b] 3)) fun e w' => e = .returned (.string ⟨(pairT a b).toArray⟩) ∧ Below W.heap.size W w' := by
  subst hN
  have h1 := itoa_le ha
  have h2 := itoa_le hb
  have hb1 : Below W.heap.size W (W.alloc (.cells #[.int .i64 a, .int .i64 b] 3)) := by (repeat (first | with_reducible exact Below.refl _ _ | with_reducible assumption | (with_reducible refine Below.drew ?_) | (with_reducible refine Below.manyDrew ?_ _) | ((with_reducible refine Below.alloc ?_ ?_ _); rotate_left; (focus (first | omega | (dsimp only; omega) | (simp; done) | (simp; omega)))) | ((with_reducible refine Below.setCell ?_ ?_ _); rotate_left; (focus (first | omega | (dsimp only; omega) | (simp; done) | (simp; omega)))) | ((with_reducible refine Below.step ?_ (by assumption) ?_); rotate_left; (focus (first | omega | (dsimp only; omega) | (simp; done) | (simp; omega))))))
  refine (words_any ⟨some ⟨W.heap.size, 0, none⟩, 2, [a, b]⟩ _ (intsAt_new W 3 [a, b] (by simp)) (by simp) (by simp) (by intro n hn; simp only [List.mem_cons, List.not_mem_nil, or_false] at hn; rcases hn with rfl | rfl <;> assumption) (by show (Go.Lib.join [Go.Lib.itoa a, Go.Lib.itoa b] [47]).length ≤ _; rw [join2_len]; omega) (ht.belowS hb1)).mono ?_
  rintro e w' ⟨rfl, hb'⟩
  exact ⟨rfl, hb1.trans (hb'.mono (by simp))⟩
theorem words3 (a b c : Int) (ha : I64 a) (hb : I64 b) (hc : I64 c) (N : Nat) (W : World) (hN : W.heap.size = N) (ht : Tb W) :
    Calls Tryz.prog 53 #[.slice (some ⟨N, 0, none⟩) 3 3] (W.alloc (.cells #[.int .i64 a, .int .i64 b, .int .i64 c] 3)) fun e w' => e = .returned (.string ⟨(Go.Lib.join [Go.Lib.itoa a, Go.Lib.itoa b, Go.Lib.itoa c] [47]).toArray⟩) ∧ Below W.heap.size W w' := by
  subst hN
  have h1 := itoa_le ha
  have h2 := itoa_le hb
  have h3 := itoa_le hc
  have hb1 : Below W.heap.size W (W.alloc (.cells #[.int .i64 a, .int .i64 b, .int .i64 c] 3)) := by (repeat (first | with_reducible exact Below.refl _ _ | with_reducible assumption | (with_reducible refine Below.drew ?_) | (with_reducible refine Below.manyDrew ?_ _) | ((with_reducible refine Below.alloc ?_ ?_ _); rotate_left; (focus (first | omega | (dsimp only; omega) | (simp; done) | (simp; omega)))) | ((with_reducible refine Below.setCell ?_ ?_ _); rotate_left; (focus (first | omega | (dsimp only; omega) | (simp; done) | (simp; omega)))) | ((with_reducible refine Below.step ?_ (by assumption) ?_); rotate_left; (focus (first | omega | (dsimp only; omega) | (simp; done) | (simp; omega))))))
  refine (words_any ⟨some ⟨W.heap.size, 0, none⟩, 3, [a, b, c]⟩ _ (intsAt_new W 3 [a, b, c] (by simp)) (by simp) (by simp) (by intro n hn; simp only [List.mem_cons, List.not_mem_nil, or_false] at hn; rcases hn with rfl | rfl | rfl <;> assumption) (by show (Go.Lib.join [Go.Lib.itoa a, Go.Lib.itoa b, Go.Lib.itoa c] [47]).length ≤ _; rw [join3_len]; omega) (ht.belowS hb1)).mono ?_
  rintro e w' ⟨rfl, hb'⟩
  exact ⟨rfl, hb1.trans (hb'.mono (by simp))⟩

theorem pairT_len {a b : Int} (ha : I64 a) (hb : I64 b) : (pairT a b).length ≤ 43 := by
  have h1 := itoa_le ha
  have h2 := itoa_le hb
  unfold pairT
  rw [join2_len]
  omega
theorem bytesOf_mk (l : List UInt8) : bytesOf ⟨l.toArray⟩ = l := rfl
theorem size_mk (l : List UInt8) : (⟨l.toArray⟩ : ByteArray).size = l.length := rfl

set_option maxRecDepth 100000 in
theorem pair_any (a b : Int) (ha : I64 a) (hb : I64 b) (w : World) (ht : Tb w) :
    Calls Tryz.prog 23 #[.int .i64 a, .int .i64 b] w fun e w' => e = .returned (.int .i64 (hashL (pairT a b) : Nat)) ∧ Below w.heap.size w w' := by
  have HW := hid (words2 a b ha hb w.heap.size w rfl ht)
  have hl := pairT_len ha hb
  have HO := hid (fun W => of_any ⟨(pairT a b).toArray⟩ W (by rw [size_mk]; omega))
  rw [bytesOf_mk] at HO
  clear ht hl ha hb
  generalize hashL (pairT a b) = h at *
  generalize pairT a b = T at *
  go_enter Tryz.func23, Tryz.ntmps23
  go_wp2_with fail
  refine HW.out.mono ?_
  rintro e w1 ⟨rfl, hb1⟩
  have hz1 := hb1.size
  have Hb1 := hid hb1
  clear hb1
  go_wp2_with fail
  refine (HO.out w1).mono ?_
  rintro e w2 ⟨rfl, hb2⟩
  go_wp2_with fail
  go_ret
  exact ⟨rfl, Below.step Hb1.out hb2 hz1⟩

/-- What hash.Two tells. -/
def numB (a : Int) : Bool := decide (0 ≤ a) && decide (a < 4294967296)
theorem numB_true {a : Int} : numB a = true ↔ 0 ≤ a ∧ a < 4294967296 := by simp [numB]
theorem numB_false {a : Int} : numB a = false ↔ a < 0 ∨ 4294967296 ≤ a := by
  rw [numB, Bool.and_eq_false_iff, decide_eq_false_iff_not, decide_eq_false_iff_not]; omega
def twoN (a b : Int) : Int := if numB a && numB b then (hashL (pairT a b) : Nat) else 0
def twoE (a b : Int) : Int := if numB a && numB b then 0 else 1
end Go.Proofs.YtmgiecoeeidgoaaGreatDoor
namespace Go.Proofs.YtmgiecoeeidgoaaGreatDoor
open Go.RowKit
open Go.ChangeShapes Go.WideShapes Go.ChangeAt

theorem bytesOf_append (x y : ByteArray) : bytesOf (x ++ y) = bytesOf x ++ bytesOf y := by simp [bytesOf]
theorem intsAt_drew {w : World} {s : SlV Int} (h : IntsAt w s) : IntsAt w.drew s := ⟨h.row, h.len⟩
theorem words3' (a b c : Int) (ha : I64 a) (hb : I64 b) (hc : I64 c) (N : Nat) (W : World) (hi : IntsAt W ⟨some ⟨N, 0, none⟩, 3, [a, b, c]⟩) (ht : Tb W) :
    Calls Tryz.prog 53 #[.slice (some ⟨N, 0, none⟩) 3 3] W fun e w' => e = .returned (.string ⟨(Go.Lib.join [Go.Lib.itoa a, Go.Lib.itoa b, Go.Lib.itoa c] [47]).toArray⟩) ∧ Below W.heap.size W w' := by
  have h1 := itoa_le ha
  have h2 := itoa_le hb
  have h3 := itoa_le hc
  exact words_any ⟨some ⟨N, 0, none⟩, 3, [a, b, c]⟩ _ hi (by simp) (by simp) (by intro n hn; simp only [List.mem_cons, List.not_mem_nil, or_false] at hn; rcases hn with rfl | rfl | rfl <;> assumption) (by show (Go.Lib.join [Go.Lib.itoa a, Go.Lib.itoa b, Go.Lib.itoa c] [47]).length ≤ _; rw [join3_len]; omega) ht

def entN (e : E) : Int := if chk e = 0 then (hashL (oneT e.key e.ver e.gone e.text) : Nat) else 0
end Go.Proofs.YtmgiecoeeidgoaaGreatDoor
