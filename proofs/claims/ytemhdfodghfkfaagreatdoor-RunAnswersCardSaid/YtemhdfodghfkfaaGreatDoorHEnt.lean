/-
  THE CONTRACTS of hash.Of and hash.Text: the number of a text. CONDITIONS: the text has at most 1000 bytes (Of).
  THE CONTRACTS of hash.words, hash.Pair, hash.One: texts and their numbers. CONDITIONS: the library's table of the powers of ten reads as it is laid (Tb).
  THE CONTRACTS of hash.Pair, hash.Two, hash.One, hash.Entry. CONDITIONS: the library's table of the powers of ten reads as it is laid (Tb).
  THE CONTRACTS of hash.One and hash.Entry. CONDITIONS: the library's table of the powers of ten reads as it is laid (Tb).
-/
import Derived.Test.YtemhdfodghfkfaaGreatDoorHLaw
import Derived.Test.YtemhdfodghfkfaaGreatDoorKit
import Derived.Lib.ConvBytes
import Derived.Test.YtemhdfodghfkfaaGreatDoorIKit
import Derived.Test.YtemhdfodghfkfaaGreatDoorDoor
import Derived.Test.YtemhdfodghfkfaaGreatDoorShelf
import Derived.Lib.AppendIntMem
import Derived.Test.YtemhdfodghfkfaaGreatDoorJoin
import Derived.Lib.ItoaLen
import Derived.Deep.RegionWith
import Derived.Deep.DeepCutAuto
import Derived.Deep.CutBlock
namespace Go.Proofs.YtemhdfodghfkfaaGreatDoor
open Go.RowKit
open Go.ChangeShapes Go.WideShapes Go.ChangeAt

theorem bytesOf_len (s : ByteArray) : (bytesOf s).length = s.size := by simp [bytesOf]
theorem hash_take (s : ByteArray) {j : Nat} (hj : j < s.size) : hashL ((bytesOf s).take (j + 1)) = hstep (hashL ((bytesOf s).take j)) ((bytesOf s).getD j 0) := by
  have hl : j < (bytesOf s).length := by rw [bytesOf_len]; exact hj
  rw [List.take_succ_eq_append_getElem hl, hash_snoc]
  congr 1
  rw [List.getD_eq_getElem?_getD, List.getElem?_eq_getElem hl]
  rfl
theorem bytesWorld_below (w : World) (e : TypeId) (s : ByteArray) : Below w.heap.size w (Go.Lib.bytesWorld w e s) :=
  ⟨rfl, rfl, rfl, by rw [Go.Lib.bytesWorld_size]; omega, fun i hi => Go.Lib.bytesWorld_at_old w e s i hi⟩

set_option maxRecDepth 100000 in
theorem of_any (s : ByteArray) (w : World) (hs : s.size ≤ 1000) : Calls Tryz.prog 65 #[.string s] w fun e w' => e = .returned (.int .i64 (hashL (bytesOf s) : Nat)) ∧ Below w.heap.size w w' := by
  have hcv := Go.Lib.run_convert_string_bytes (P := Tryz.prog) w 9 43 5 s Tryz.underlying9 Tryz.underlying43 Tryz.underlying5
  have hb := bytesWorld_below w 5 s
  have Hc := hid (fun j (hj : j < s.size) => Go.Lib.bytesWorld_cell w 5 s j hj)
  generalize Go.Lib.bytesWorld w 5 s = w1 at *
  generalize grownCap w s.size 0 5 = cap at *
  have Hb := hid hb
  clear hb
  go_enter Tryz.func65, Tryz.ntmps65
  go_wp2_with fail
  go_loopw [3, 9] (fun n i wr => ∃ j : Nat, j ≤ s.size ∧ i = .int .i64 j ∧ n = .int .i64 (hashL ((bytesOf s).take j) : Nat) ∧ wr = w1) (fun _ i _ => s.size - (intOf i).toNat)
  case atStart => exact ⟨0, Nat.zero_le _, rfl, rfl, rfl⟩
  case round =>
    obtain ⟨j, hj, rfl, rfl, rfl⟩ := hrel
    by_cases hlt : j < s.size
    · have hcell := Hc.out j hlt
      have hst := hash_take s hlt
      have hn := hash_lt ((bytesOf s).take j)
      rw [show (s.data.toList.getD j 0) = (bytesOf s).getD j 0 from rfl] at hcell
      generalize (bytesOf s).getD j 0 = c at *
      generalize hashL ((bytesOf s).take j) = n at *
      have hc256 := c.toNat_lt
      have hx := bits_xor_i64_nat n c.toNat hn (by omega)
      have hxl := xor_lt32 (b := c.toNat) hn (by omega)
      have Hst := hid hst
      unfold hstep at Hst
      clear hst
      generalize n ^^^ c.toNat = y at *
      go_wp2_with fail
      go_roundw
      case rel =>
        refine ⟨j + 1, by omega, by go_num, ?_, trivial⟩
        rw [Hst.out]
        go_num
      case measure => simp [intOf]; omega
    · obtain rfl : j = s.size := by omega
      have HF := hid (show hashL ((bytesOf s).take s.size) = hashL (bytesOf s) by rw [← bytesOf_len, List.take_length])
      go_wp2_with fail
      go_ret
      exact ⟨by rw [HF.out]; rfl, Hb.out⟩

/-- What hash.Text tells: the number, the fault. -/
def textN (s : ByteArray) : Int := if s.size ≤ 60 then (hashL (bytesOf s) : Nat) else 0
def textE (s : ByteArray) : Int := if s.size ≤ 60 then 0 else 4
end Go.Proofs.YtemhdfodghfkfaaGreatDoor
namespace Go.Proofs.YtemhdfodghfkfaaGreatDoor
open Go.RowKit
open Go.ChangeShapes Go.WideShapes Go.ChangeAt

theorem grow_below (w : World) (k : Nat) (os : Array Obj) : Below w.heap.size w (Go.Sort.grow (w.drewN k) os) := by
  exact Go.Lib.below_grow _ _ (Nat.le_refl _) _ _
theorem itoa_any (n : Int) (h0 : -9223372036854775808 ≤ n) (h1 : n ≤ 9223372036854775807) (w : World) (ht : Tb w) :
    Calls Tryz.prog 89 #[.int .i64 n] w fun e w' => e = .returned (.string ⟨(Go.Lib.itoa n).toArray⟩) ∧ Below w.heap.size w w' := by
  refine (Tryz.strconv_Itoa n h0 h1 w ht).mono ?_
  rintro e w' ⟨rfl, k, os, rfl⟩
  exact ⟨rfl, grow_below _ _ _⟩

/-- The texts of numbers. -/
def strsOf (l : List Int) : List ByteArray := l.map fun n => ⟨(Go.Lib.itoa n).toArray⟩
theorem strsOf_len (l : List Int) : (strsOf l).length = l.length := by simp [strsOf]
theorem strsOf_take (l : List Int) {j : Nat} (hj : j < l.length) : strsOf (l.take (j + 1)) = strsOf (l.take j) ++ [⟨(Go.Lib.itoa (l.getD j 0)).toArray⟩] := by
  rw [List.take_succ_eq_append_getElem hj]
  unfold strsOf
  rw [List.map_append, List.getD_eq_getElem?_getD, List.getElem?_eq_getElem hj]
  rfl
theorem strsOf_lists (l : List Int) : (strsOf l).map (·.data.toList) = l.map Go.Lib.itoa := by
  unfold strsOf
  rw [List.map_map]
  apply List.map_congr_left
  intro n _
  simp

set_option maxHeartbeats 2000000 in
set_option maxRecDepth 100000 in
theorem words_any (s : SlV Int) (w : World) (hs : IntsAt w s) (h1 : 1 ≤ s.xs.length) (h3 : s.xs.length ≤ 3) (hr : ∀ n ∈ s.xs, -9223372036854775808 ≤ n ∧ n ≤ 9223372036854775807) (hl : (Go.Lib.join (s.xs.map Go.Lib.itoa) [47]).length ≤ 1000) (ht : Tb w) :
    Calls Tryz.prog 66 #[.slice s.A s.xs.length s.c] w fun e w' => e = .returned (.string ⟨(Go.Lib.join (s.xs.map Go.Lib.itoa) [47]).toArray⟩) ∧ Below w.heap.size w w' := by
  obtain ⟨b, off, hA, hb, hcells⟩ := hs.row (by omega)
  have Ht := hid ht
  have Hl := hid hl
  have Hr := hid hr
  clear ht hl hr hs
  rw [hA]
  clear hA
  go_enter Tryz.func66, Tryz.ntmps66
  go_wp2_with fail
  go_loopw [3, 8] (fun v i wr => ∃ j : Nat, j ≤ s.xs.length ∧ i = .int .i64 j ∧ Ow cellB 1 w.heap.size 9 wr v (strsOf (s.xs.take j)) ∧ Below w.heap.size w wr) (fun _ i _ => s.xs.length - (intOf i).toNat)
  case atStart => exact ⟨0, Nat.zero_le _, rfl, Ow.nil _ _ _ _ _, Below.refl _ _⟩
  case round =>
    obtain ⟨j, hj, rfl, hO, hbr⟩ := hrel
    have hz0 := hbr.size
    have HO := hid hO
    have Hb := hid hbr
    clear hO
    by_cases hlt : j < s.xs.length
    · have hcell := (hbr.cell (p := ⟨b, off + j, none⟩) hb).trans (hcells j hlt)
      have hrj := Hr.out _ (List.getElem_mem hlt)
      rw [show s.xs[j] = s.xs.getD j 0 by rw [List.getD_eq_getElem?_getD, List.getElem?_eq_getElem hlt]; rfl] at hrj
      have hst := strsOf_take s.xs hlt
      have hlL : (strsOf (s.xs.take j)).length ≤ 3 := by rw [strsOf_len, List.length_take]; omega
      generalize s.xs.getD j 0 = n at *
      generalize strsOf (s.xs.take j) = L at *
      have Hst := hid hst
      have HI := hid (itoa_any n hrj.1 hrj.2 wr (Ht.out.belowS hbr))
      clear hst hrj hbr
      go_wp2_with fail
      refine HI.out.mono ?_
      rintro e w1 ⟨rfl, hb1⟩
      have hz1 := hb1.size
      have Hb1 := hid (Below.step Hb.out hb1 hz0)
      have HO1 := hid (HO.out.belowS hb1)
      clear hb1
      go_wp2_with (at_builtin; refine appB _ w.heap.size _ L _ HO1.out rfl _ _ rfl rfl rfl ?_ ?_ ?_ ?_)
      any_goals (first | (with_reducible rfl) | omega | exact World.size_alloc _ _ | (show _ ≤ _; rw [World.size_alloc]; omega))
      intro v8 w8 h8 f8 o8
      have hb8 : Below w.heap.size w w8 := Hb1.out.trans (f8.below0 (by omega) (fun i hi => HO1.out.ge _ hi))
      go_wp2_with fail
      go_roundw
      case rel => exact ⟨j + 1, by omega, by go_num, by rw [Hst.out]; exact h8, hb8⟩
      case measure => simp [intOf]; omega
    · obtain rfl : j = s.xs.length := by omega
      rw [List.take_length] at HO
      have hne : 0 < (strsOf s.xs).length := by rw [strsOf_len]; omega
      obtain ⟨g, og, cap, rfl, hc1, hc2, hg1, hg2, hg3, _, _⟩ := HO.out.get hne
      have HJ := hid (Tryz.strings_Join g og cap (strsOf s.xs) ⟨#[47]⟩ wr (Ow.strCells HO.out hne) hg2 (by rw [strsOf_len]; omega) hc1 (by rw [strsOf_lists]; have := Hl.out; simp only at this ⊢; omega))
      rw [strsOf_lists, strsOf_len] at HJ
      rw [strsOf_len]
      clear hc1 hc2 hg1 hg2 hg3 hne HO hbr
      go_wp2_with fail
      refine HJ.out.mono ?_
      rintro e w1 ⟨rfl, hb1⟩
      go_wp2_with fail
      go_ret
      exact ⟨rfl, Below.step Hb.out hb1 hz0⟩
end Go.Proofs.YtemhdfodghfkfaaGreatDoor
namespace Go.Proofs.YtemhdfodghfkfaaGreatDoor
open Go.RowKit
open Go.ChangeShapes Go.WideShapes Go.ChangeAt

def I64 (n : Int) : Prop := -9223372036854775808 ≤ n ∧ n ≤ 9223372036854775807
theorem itoa_le {n : Int} (h : I64 n) : (Go.Lib.itoa n).length ≤ 21 := Go.Lib.itoa_length_le n h.1 h.2
theorem join2_len (x y : List UInt8) : (Go.Lib.join [x, y] [47]).length = x.length + 1 + y.length := by
  rw [Go.Lib.join_cons]; simp [Go.Lib.joinTail]; omega
theorem join3_len (x y z : List UInt8) : (Go.Lib.join [x, y, z] [47]).length = x.length + 1 + y.length + 1 + z.length := by
  rw [Go.Lib.join_cons]; simp [Go.Lib.joinTail]; omega
theorem intsAt_new (W : World) (T : TypeId) (l : List Int) (hl : l.length ≤ 100) : IntsAt (W.alloc (.cells (ints l) T)) ⟨some ⟨W.heap.size, 0, none⟩, l.length, l⟩ :=
  ⟨fun _ => ⟨W.heap.size, 0, rfl, by simp, fun i hi => by rw [Nat.zero_add, (Blk.new W T (ints l)).cell i]; exact ints_get l i hi⟩, by unfold maxLen; show l.length ≤ _; omega⟩

theorem words2 (a b : Int) (ha : I64 a) (hb : I64 b) (N : Nat) (W : World) (hN : W.heap.size = N) (ht : Tb W) :
    Calls Tryz.prog 66 #[.slice (some ⟨N, 0, none⟩) 2 2] (W.alloc (.cells #[.int .i64 a, .int .i64 b] 3)) fun e w' => e = .returned (.string ⟨(pairT a b).toArray⟩) ∧ Below W.heap.size W w' := by
  subst hN
  have h1 := itoa_le ha
  have h2 := itoa_le hb
  have hb1 : Below W.heap.size W (W.alloc (.cells #[.int .i64 a, .int .i64 b] 3)) := by (repeat (first | with_reducible exact Below.refl _ _ | with_reducible assumption | (with_reducible refine Below.drew ?_) | (with_reducible refine Below.manyDrew ?_ _) | ((with_reducible refine Below.alloc ?_ ?_ _); rotate_left; (focus (first | omega | (dsimp only; omega) | (simp; done) | (simp; omega)))) | ((with_reducible refine Below.setCell ?_ ?_ _); rotate_left; (focus (first | omega | (dsimp only; omega) | (simp; done) | (simp; omega)))) | ((with_reducible refine Below.step ?_ (by assumption) ?_); rotate_left; (focus (first | omega | (dsimp only; omega) | (simp; done) | (simp; omega))))))
  refine (words_any ⟨some ⟨W.heap.size, 0, none⟩, 2, [a, b]⟩ _ (intsAt_new W 3 [a, b] (by simp)) (by simp) (by simp) (by intro n hn; simp only [List.mem_cons, List.not_mem_nil, or_false] at hn; rcases hn with rfl | rfl <;> assumption) (by show (Go.Lib.join [Go.Lib.itoa a, Go.Lib.itoa b] [47]).length ≤ _; rw [join2_len]; omega) (ht.belowS hb1)).mono ?_
  rintro e w' ⟨rfl, hb'⟩
  exact ⟨rfl, hb1.trans (hb'.mono (by simp))⟩
theorem words3 (a b c : Int) (ha : I64 a) (hb : I64 b) (hc : I64 c) (N : Nat) (W : World) (hN : W.heap.size = N) (ht : Tb W) :
    Calls Tryz.prog 66 #[.slice (some ⟨N, 0, none⟩) 3 3] (W.alloc (.cells #[.int .i64 a, .int .i64 b, .int .i64 c] 3)) fun e w' => e = .returned (.string ⟨(Go.Lib.join [Go.Lib.itoa a, Go.Lib.itoa b, Go.Lib.itoa c] [47]).toArray⟩) ∧ Below W.heap.size W w' := by
  subst hN
  have h1 := itoa_le ha
  have h2 := itoa_le hb
  have h3 := itoa_le hc
  have hb1 : Below W.heap.size W (W.alloc (.cells #[.int .i64 a, .int .i64 b, .int .i64 c] 3)) := by (repeat (first | with_reducible exact Below.refl _ _ | with_reducible assumption | (with_reducible refine Below.drew ?_) | (with_reducible refine Below.manyDrew ?_ _) | ((with_reducible refine Below.alloc ?_ ?_ _); rotate_left; (focus (first | omega | (dsimp only; omega) | (simp; done) | (simp; omega)))) | ((with_reducible refine Below.setCell ?_ ?_ _); rotate_left; (focus (first | omega | (dsimp only; omega) | (simp; done) | (simp; omega)))) | ((with_reducible refine Below.step ?_ (by assumption) ?_); rotate_left; (focus (first | omega | (dsimp only; omega) | (simp; done) | (simp; omega))))))
  refine (words_any ⟨some ⟨W.heap.size, 0, none⟩, 3, [a, b, c]⟩ _ (intsAt_new W 3 [a, b, c] (by simp)) (by simp) (by simp) (by intro n hn; simp only [List.mem_cons, List.not_mem_nil, or_false] at hn; rcases hn with rfl | rfl | rfl <;> assumption) (by show (Go.Lib.join [Go.Lib.itoa a, Go.Lib.itoa b, Go.Lib.itoa c] [47]).length ≤ _; rw [join3_len]; omega) (ht.belowS hb1)).mono ?_
  rintro e w' ⟨rfl, hb'⟩
  exact ⟨rfl, hb1.trans (hb'.mono (by simp))⟩

theorem pairT_len {a b : Int} (ha : I64 a) (hb : I64 b) : (pairT a b).length ≤ 43 := by
  have h1 := itoa_le ha
  have h2 := itoa_le hb
  unfold pairT
  rw [join2_len]
  omega
theorem bytesOf_mk (l : List UInt8) : bytesOf ⟨l.toArray⟩ = l := rfl
theorem size_mk (l : List UInt8) : (⟨l.toArray⟩ : ByteArray).size = l.length := rfl

set_option maxRecDepth 100000 in
theorem pair_any (a b : Int) (ha : I64 a) (hb : I64 b) (w : World) (ht : Tb w) :
    Calls Tryz.prog 42 #[.int .i64 a, .int .i64 b] w fun e w' => e = .returned (.int .i64 (hashL (pairT a b) : Nat)) ∧ Below w.heap.size w w' := by
  have HW := hid (words2 a b ha hb w.heap.size w rfl ht)
  have hl := pairT_len ha hb
  have HO := hid (fun W => of_any ⟨(pairT a b).toArray⟩ W (by rw [size_mk]; omega))
  rw [bytesOf_mk] at HO
  clear ht hl ha hb
  generalize hashL (pairT a b) = h at *
  generalize pairT a b = T at *
  go_enter Tryz.func42, Tryz.ntmps42
  go_wp2_with fail
  refine HW.out.mono ?_
  rintro e w1 ⟨rfl, hb1⟩
  have hz1 := hb1.size
  have Hb1 := hid hb1
  clear hb1
  go_wp2_with fail
  refine (HO.out w1).mono ?_
  rintro e w2 ⟨rfl, hb2⟩
  go_wp2_with fail
  go_ret
  exact ⟨rfl, Below.step Hb1.out hb2 hz1⟩

/-- What hash.Two tells. -/
def numB (a : Int) : Bool := decide (0 ≤ a) && decide (a < 4294967296)
theorem numB_true {a : Int} : numB a = true ↔ 0 ≤ a ∧ a < 4294967296 := by simp [numB]
theorem numB_false {a : Int} : numB a = false ↔ a < 0 ∨ 4294967296 ≤ a := by
  rw [numB, Bool.and_eq_false_iff, decide_eq_false_iff_not, decide_eq_false_iff_not]; omega
def twoN (a b : Int) : Int := if numB a && numB b then (hashL (pairT a b) : Nat) else 0
def twoE (a b : Int) : Int := if numB a && numB b then 0 else 1
end Go.Proofs.YtemhdfodghfkfaaGreatDoor
namespace Go.Proofs.YtemhdfodghfkfaaGreatDoor
open Go.RowKit
open Go.ChangeShapes Go.WideShapes Go.ChangeAt

theorem bytesOf_append (x y : ByteArray) : bytesOf (x ++ y) = bytesOf x ++ bytesOf y := by simp [bytesOf]
theorem intsAt_drew {w : World} {s : SlV Int} (h : IntsAt w s) : IntsAt w.drew s := ⟨h.row, h.len⟩
theorem words3' (a b c : Int) (ha : I64 a) (hb : I64 b) (hc : I64 c) (N : Nat) (W : World) (hi : IntsAt W ⟨some ⟨N, 0, none⟩, 3, [a, b, c]⟩) (ht : Tb W) :
    Calls Tryz.prog 66 #[.slice (some ⟨N, 0, none⟩) 3 3] W fun e w' => e = .returned (.string ⟨(Go.Lib.join [Go.Lib.itoa a, Go.Lib.itoa b, Go.Lib.itoa c] [47]).toArray⟩) ∧ Below W.heap.size W w' := by
  have h1 := itoa_le ha
  have h2 := itoa_le hb
  have h3 := itoa_le hc
  exact words_any ⟨some ⟨N, 0, none⟩, 3, [a, b, c]⟩ _ hi (by simp) (by simp) (by intro n hn; simp only [List.mem_cons, List.not_mem_nil, or_false] at hn; rcases hn with rfl | rfl | rfl <;> assumption) (by show (Go.Lib.join [Go.Lib.itoa a, Go.Lib.itoa b, Go.Lib.itoa c] [47]).length ≤ _; rw [join3_len]; omega) ht

set_option maxHeartbeats 4000000 in
set_option maxRecDepth 100000 in
theorem one_any (k v a : Int) (g : Bool) (t : ByteArray) (hk : I64 k) (hv : I64 v) (h12 : t.size ≤ 12) (w : World) (ht : Tb w) :
    Calls Tryz.prog 192 #[.agg #[.int .i64 k, .int .i64 v, .int .i64 a, .bool g, .string t]] w fun e w' => e = .returned (.int .i64 (hashL (oneT k v g t) : Nat)) ∧ Below w.heap.size w w' := by
  obtain ⟨gi, hgi, hg64⟩ : ∃ gi : Int, (if g then 1 else 0) = gi ∧ I64 gi := by
    cases g
    · exact ⟨0, rfl, by decide, by decide⟩
    · exact ⟨1, rfl, by decide, by decide⟩
  have HW := hid (fun N W => words3' k v gi hk hv hg64 N W)
  have hle : (Go.Lib.join [Go.Lib.itoa k, Go.Lib.itoa v, Go.Lib.itoa gi] [47]).length ≤ 65 := by
    have h1 := itoa_le hk
    have h2 := itoa_le hv
    have h3 := itoa_le hg64
    rw [join3_len]
    omega
  have HT : oneT k v g t = Go.Lib.join [Go.Lib.itoa k, Go.Lib.itoa v, Go.Lib.itoa gi] [47] ++ [47] ++ bytesOf t := by
    rw [oneT, hgi]
    simp
  generalize Go.Lib.join [Go.Lib.itoa k, Go.Lib.itoa v, Go.Lib.itoa gi] [47] = J0 at *
  obtain ⟨J, hJ⟩ : ∃ J : ByteArray, J = ⟨J0.toArray⟩ := ⟨_, rfl⟩
  rw [← hJ] at HW
  have hJb : bytesOf J = J0 := by rw [hJ, bytesOf_mk]
  have hJz : J.size ≤ 65 := by rw [← bytesOf_len, hJb]; exact hle
  obtain ⟨S1, hS1⟩ : ∃ S1 : ByteArray, S1 = J ++ ⟨#[47]⟩ := ⟨_, rfl⟩
  have hb1 : bytesOf S1 = J0 ++ [47] := by rw [hS1, bytesOf_append, hJb]; rfl
  have hz1 : S1.size ≤ 66 := by rw [← bytesOf_len, hb1, List.length_append, ← hJb, bytesOf_len]; simp only [List.length_cons, List.length_nil]; omega
  obtain ⟨S2, hS2⟩ : ∃ S2 : ByteArray, S2 = S1 ++ t := ⟨_, rfl⟩
  have hS : bytesOf S2 = oneT k v g t := by rw [hS2, bytesOf_append, hb1, HT]
  have hz : S2.size ≤ 1000 := by rw [← bytesOf_len, hS2, bytesOf_append, List.length_append, bytesOf_len, bytesOf_len]; omega
  have q1 : ∀ W, (Op.stringOp .add J ⟨#[47]⟩).run Tryz.prog W = .ok (.string S1) W := fun W => by rw [run_string_add_sum W J _ (by show J.size + 1 ≤ _; omega), hS1]
  have q2 : ∀ W, (Op.stringOp .add S1 t).run Tryz.prog W = .ok (.string S2) W := fun W => by rw [run_string_add_sum W S1 _ (by omega), hS2]
  have HO := hid (fun W => of_any S2 W hz)
  rw [hS] at HO
  generalize hashL (oneT k v g t) = h at *
  have Hgi := hid hgi
  have Ht := hid ht
  clear hS hz HT hle hk hv hg64 hgi ht hS1 hS2 hb1 hJb hJ
  obtain ⟨wA, hwA⟩ : ∃ wA : World, wA = w.alloc (.cells #[.int .i64 k, .int .i64 v, .int .i64 a, .bool g, .string t] 59) := ⟨_, rfl⟩
  have HX := hid (show Blk wA w.heap.size 59 #[.int .i64 k, .int .i64 v, .int .i64 a, .bool g, .string t] by rw [hwA]; exact Blk.new _ _ _)
  have hbA : Below w.heap.size w wA := by rw [hwA]; (repeat (first | with_reducible exact Below.refl _ _ | with_reducible assumption | (with_reducible refine Below.drew ?_) | (with_reducible refine Below.manyDrew ?_ _) | ((with_reducible refine Below.alloc ?_ ?_ _); rotate_left; (focus (first | omega | (dsimp only; omega) | (simp; done) | (simp; omega)))) | ((with_reducible refine Below.setCell ?_ ?_ _); rotate_left; (focus (first | omega | (dsimp only; omega) | (simp; done) | (simp; omega)))) | ((with_reducible refine Below.step ?_ (by assumption) ?_); rotate_left; (focus (first | omega | (dsimp only; omega) | (simp; done) | (simp; omega))))))
  have HbA := hid hbA
  have HtA := hid (Ht.out.belowS hbA)
  have hzA := hbA.size
  clear hbA
  have c0 : wA.cell? ⟨w.heap.size, 0, none⟩ = some (.int .i64 k) := HX.out.cell 0
  have c1 : wA.cell? ⟨w.heap.size, 1, none⟩ = some (.int .i64 v) := HX.out.cell 1
  have c4 : wA.cell? ⟨w.heap.size, 4, none⟩ = some (.string t) := HX.out.cell 4
  have hltA := HX.out.lt
  have HwA := hid hwA
  clear hwA
  go_enter Tryz.func192, Tryz.ntmps192
  go_upto_if 5 with fail
  rw [← HwA.out]
  go_cut [3] (fun u wx => u = .int .i64 gi ∧ wx = wA)
  case first =>
    have c3 : wA.cell? ⟨w.heap.size, 3, none⟩ = some (.bool g) := HX.out.cell 3
    cases g
    all_goals
      first | obtain rfl : gi = 0 := Hgi.out.symm | obtain rfl : gi = 1 := Hgi.out.symm
      go_wp2_with fail
      go_meet
      exact ⟨rfl, rfl⟩
  case rest =>
  obtain ⟨rfl, hwc⟩ := hcut
  obtain rfl : wA = wc := hwc.symm
  clear Hgi HwA
  go_upto_region 4 with fail
  go_region_with (first
    | (go_at_call 66; refine (HW.out wA.heap.size _ ?_ ?_).mono ?_; (first | with_reducible exact intsAt_new wA 3 [k, v, gi] (by simp) | exact intsAt_drew (intsAt_new wA 3 [k, v, gi] (by simp))); (exact HtA.out.belowS (by (repeat (first | with_reducible exact Below.refl _ _ | with_reducible assumption | (with_reducible refine Below.drew ?_) | (with_reducible refine Below.manyDrew ?_ _) | ((with_reducible refine Below.alloc ?_ ?_ _); rotate_left; (focus (first | omega | (dsimp only; omega) | (simp; done) | (simp; omega)))) | ((with_reducible refine Below.setCell ?_ ?_ _); rotate_left; (focus (first | omega | (dsimp only; omega) | (simp; done) | (simp; omega)))) | ((with_reducible refine Below.step ?_ (by assumption) ?_); rotate_left; (focus (first | omega | (dsimp only; omega) | (simp; done) | (simp; omega)))))))); rintro e wx ⟨rfl, hbx⟩; have hbx2 : Below wA.heap.size wA wx := (Below.step (by (repeat (first | with_reducible exact Below.refl _ _ | with_reducible assumption | (with_reducible refine Below.drew ?_) | (with_reducible refine Below.manyDrew ?_ _) | ((with_reducible refine Below.alloc ?_ ?_ _); rotate_left; (focus (first | omega | (dsimp only; omega) | (simp; done) | (simp; omega)))) | ((with_reducible refine Below.setCell ?_ ?_ _); rotate_left; (focus (first | omega | (dsimp only; omega) | (simp; done) | (simp; omega)))) | ((with_reducible refine Below.step ?_ (by assumption) ?_); rotate_left; (focus (first | omega | (dsimp only; omega) | (simp; done) | (simp; omega))))))) hbx (by simp)); have hzx := hbx2.size; have c4x : wx.cell? ⟨w.heap.size, 4, none⟩ = some (.string t) := (hbx2.cell (p := ⟨w.heap.size, 4, none⟩) hltA).trans c4)
    | (go_at_call 65; refine (HO.out _).mono ?_; rintro e wy ⟨rfl, hby⟩))
  all_goals
    have hbA2 := HbA.out
    go_wp2_with fail
    go_ret
    exact ⟨rfl, by (repeat (first | with_reducible exact Below.refl _ _ | with_reducible assumption | (with_reducible refine Below.drew ?_) | (with_reducible refine Below.manyDrew ?_ _) | ((with_reducible refine Below.alloc ?_ ?_ _); rotate_left; (focus (first | omega | (dsimp only; omega) | (simp; done) | (simp; omega)))) | ((with_reducible refine Below.setCell ?_ ?_ _); rotate_left; (focus (first | omega | (dsimp only; omega) | (simp; done) | (simp; omega)))) | ((with_reducible refine Below.step ?_ (by assumption) ?_); rotate_left; (focus (first | omega | (dsimp only; omega) | (simp; done) | (simp; omega))))))⟩

def entN (e : E) : Int := if chk e = 0 then (hashL (oneT e.key e.ver e.gone e.text) : Nat) else 0
end Go.Proofs.YtemhdfodghfkfaaGreatDoor
