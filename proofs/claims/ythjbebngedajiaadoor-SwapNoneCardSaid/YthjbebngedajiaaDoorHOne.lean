/-
  THE CONTRACTS of hash.Pair, hash.Two, hash.One, hash.Entry. CONDITIONS: the library's table of the powers of ten reads as it is laid (Tb).
-/
import Derived.Test.YthjbebngedajiaaDoorHWords
import Derived.Test.YthjbebngedajiaaDoorCheck
import Derived.Lib.ItoaLen
import Derived.Deep.RegionWith
namespace Go.Proofs.YthjbebngedajiaaDoor
open Go.RowKit
open Go.ChangeShapes Go.WideShapes Go.ChangeAt

def I64 (n : Int) : Prop := -9223372036854775808 ≤ n ∧ n ≤ 9223372036854775807
theorem itoa_le {n : Int} (h : I64 n) : (Go.Lib.itoa n).length ≤ 21 := Go.Lib.itoa_length_le n h.1 h.2
theorem join2_len (x y : List UInt8) : (Go.Lib.join [x, y] [47]).length = x.length + 1 + y.length := by
  rw [Go.Lib.join_cons]; simp [Go.Lib.joinTail]; omega
theorem join3_len (x y z : List UInt8) : (Go.Lib.join [x, y, z] [47]).length = x.length + 1 + y.length + 1 + z.length := by
  rw [Go.Lib.join_cons]; simp [Go.Lib.joinTail]; omega
theorem intsAt_new (W : World) (T : TypeId) (l : List Int) (hl : l.length ≤ 100) : IntsAt (W.alloc (.cells (ints l) T)) ⟨some ⟨W.heap.size, 0, none⟩, l.length, l⟩ :=
  ⟨fun _ => ⟨W.heap.size, 0, rfl, by simp, fun i hi => by rw [Nat.zero_add, (Blk.new W T (ints l)).cell i]; exact ints_get l i hi⟩, by unfold maxLen; show l.length ≤ _; omega⟩

theorem words2 (a b : Int) (ha : I64 a) (hb : I64 b) (N : Nat) (W : World) (hN : W.heap.size = N) (ht : Tb W) :
    Calls Tryd.prog 84 #[.slice (some ⟨N, 0, none⟩) 2 2] (W.alloc (.cells #[.int .i64 a, .int .i64 b] 3)) fun e w' => e = .returned (.string ⟨(pairT a b).toArray⟩) ∧ Below W.heap.size W w' := by
  subst hN
  have h1 := itoa_le ha
  have h2 := itoa_le hb
  have hb1 : Below W.heap.size W (W.alloc (.cells #[.int .i64 a, .int .i64 b] 3)) := by (repeat (first | with_reducible exact Below.refl _ _ | with_reducible assumption | (with_reducible refine Below.drew ?_) | (with_reducible refine Below.manyDrew ?_ _) | ((with_reducible refine Below.alloc ?_ ?_ _); rotate_left; (focus (first | omega | (dsimp only; omega) | (simp; done) | (simp; omega)))) | ((with_reducible refine Below.setCell ?_ ?_ _); rotate_left; (focus (first | omega | (dsimp only; omega) | (simp; done) | (simp; omega)))) | ((with_reducible refine Below.step ?_ (by assumption) ?_); rotate_left; (focus (first | omega | (dsimp only; omega) | (simp; done) | (simp; omega))))))
  refine (words_any ⟨some ⟨W.heap.size, 0, none⟩, 2, [a, b]⟩ _ (intsAt_new W 3 [a, b] (by simp)) (by simp) (by simp) (by intro n hn; simp only [List.mem_cons, List.not_mem_nil, or_false] at hn; rcases hn with rfl | rfl <;> assumption) (by show (Go.Lib.join [Go.Lib.itoa a, Go.Lib.itoa b] [47]).length ≤ _; rw [join2_len]; omega) (ht.belowS hb1)).mono ?_
  rintro e w' ⟨rfl, hb'⟩
  exact ⟨rfl, hb1.trans (hb'.mono (by simp))⟩
theorem words3 (a b c : Int) (ha : I64 a) (hb : I64 b) (hc : I64 c) (N : Nat) (W : World) (hN : W.heap.size = N) (ht : Tb W) :
    Calls Tryd.prog 84 #[.slice (some ⟨N, 0, none⟩) 3 3] (W.alloc (.cells #[.int .i64 a, .int .i64 b, .int .i64 c] 3)) fun e w' => e = .returned (.string ⟨(Go.Lib.join [Go.Lib.itoa a, Go.Lib.itoa b, Go.Lib.itoa c] [47]).toArray⟩) ∧ Below W.heap.size W w' := by
  subst hN
  have h1 := itoa_le ha
  have h2 := itoa_le hb
  have h3 := itoa_le hc
  have hb1 : Below W.heap.size W (W.alloc (.cells #[.int .i64 a, .int .i64 b, .int .i64 c] 3)) := by (repeat (first | with_reducible exact Below.refl _ _ | with_reducible assumption | (with_reducible refine Below.drew ?_) | (with_reducible refine Below.manyDrew ?_ _) | ((with_reducible refine Below.alloc ?_ ?_ _); rotate_left; (focus (first | omega | (dsimp only; omega) | (simp; done) | (simp; omega)))) | ((with_reducible refine Below.setCell ?_ ?_ _); rotate_left; (focus (first | omega | (dsimp only; omega) | (simp; done) | (simp; omega)))) | ((with_reducible refine Below.step ?_ (by assumption) ?_); rotate_left; (focus (first | omega | (dsimp only; omega) | (simp; done) | (simp; omega))))))
  refine (words_any ⟨some ⟨W.heap.size, 0, none⟩, 3, [a, b, c]⟩ _ (intsAt_new W 3 [a, b, c] (by simp)) (by simp) (by simp) (by intro n hn; simp only [List.mem_cons, List.not_mem_nil, or_false] at hn; rcases hn with rfl | rfl | rfl <;> assumption) (by show (Go.Lib.join [Go.Lib.itoa a, Go.Lib.itoa b, Go.Lib.itoa c] [47]).length ≤ _; rw [join3_len]; omega) (ht.belowS hb1)).mono ?_
  rintro e w' ⟨rfl, hb'⟩
  exact ⟨rfl, hb1.trans (hb'.mono (by simp))⟩

theorem pairT_len {a b : Int} (ha : I64 a) (hb : I64 b) : (pairT a b).length ≤ 43 := by
  have h1 := itoa_le ha
  have h2 := itoa_le hb
  unfold pairT
  rw [join2_len]
  omega
theorem bytesOf_mk (l : List UInt8) : bytesOf ⟨l.toArray⟩ = l := rfl
theorem size_mk (l : List UInt8) : (⟨l.toArray⟩ : ByteArray).size = l.length := rfl

set_option maxRecDepth 100000 in
theorem pair_any (a b : Int) (ha : I64 a) (hb : I64 b) (w : World) (ht : Tb w) :
    Calls Tryd.prog 69 #[.int .i64 a, .int .i64 b] w fun e w' => e = .returned (.int .i64 (hashL (pairT a b) : Nat)) ∧ Below w.heap.size w w' := by
  have HW := hid (words2 a b ha hb w.heap.size w rfl ht)
  have hl := pairT_len ha hb
  have HO := hid (fun W => of_any ⟨(pairT a b).toArray⟩ W (by rw [size_mk]; omega))
  rw [bytesOf_mk] at HO
  clear ht hl ha hb
  generalize hashL (pairT a b) = h at *
  generalize pairT a b = T at *
  go_enter Tryd.func69, Tryd.ntmps69
  go_wp2_with fail
  refine HW.out.mono ?_
  rintro e w1 ⟨rfl, hb1⟩
  have hz1 := hb1.size
  have Hb1 := hid hb1
  clear hb1
  go_wp2_with fail
  refine (HO.out w1).mono ?_
  rintro e w2 ⟨rfl, hb2⟩
  go_wp2_with fail
  go_ret
  exact ⟨rfl, Below.step Hb1.out hb2 hz1⟩

/-- What hash.Two tells. -/
def numB (a : Int) : Bool := decide (0 ≤ a) && decide (a < 4294967296)
theorem numB_true {a : Int} : numB a = true ↔ 0 ≤ a ∧ a < 4294967296 := by simp [numB]
theorem numB_false {a : Int} : numB a = false ↔ a < 0 ∨ 4294967296 ≤ a := by
  rw [numB, Bool.and_eq_false_iff, decide_eq_false_iff_not, decide_eq_false_iff_not]; omega
def twoN (a b : Int) : Int := if numB a && numB b then (hashL (pairT a b) : Nat) else 0
def twoE (a b : Int) : Int := if numB a && numB b then 0 else 1
set_option maxRecDepth 100000 in
theorem two_any (a b : Int) (w : World) (ht : Tb w) :
    Calls Tryd.prog 41 #[.int .i64 a, .int .i64 b] w fun e w' => e = .returned (.tuple #[.int .i64 (twoN a b), errV (twoE a b)]) ∧ Below w.heap.size w w' := by
  rcases hA : numB a with _ | _
  · rw [show twoN a b = 0 by rw [twoN, hA]; rfl, show errV (twoE a b) = .iface 87 (.int .i64 1) by rw [twoE, hA]; rfl]
    rcases numB_false.1 hA with h | h
    all_goals
      clear hA
      go_enter Tryd.func41, Tryd.ntmps41
      go_wp2_with fail
      all_goals
        go_ret2
        exact ⟨rfl, Below.refl _ _⟩
  · have h1 := numB_true.1 hA
    rcases hB : numB b with _ | _
    · rw [show twoN a b = 0 by rw [twoN, hA, hB]; rfl, show errV (twoE a b) = .iface 87 (.int .i64 1) by rw [twoE, hA, hB]; rfl]
      rcases numB_false.1 hB with h | h
      all_goals
        clear hA hB
        go_enter Tryd.func41, Tryd.ntmps41
        go_wp2_with fail
        all_goals
          go_ret2
          exact ⟨rfl, Below.refl _ _⟩
    · have h2 := numB_true.1 hB
      rw [show twoN a b = (hashL (pairT a b) : Nat) by rw [twoN, hA, hB]; rfl, show errV (twoE a b) = .nilIface by rw [twoE, hA, hB]; rfl]
      have HP := hid (pair_any a b ⟨by omega, by omega⟩ ⟨by omega, by omega⟩ w ht)
      clear hA hB ht
      generalize hashL (pairT a b) = h at *
      go_enter Tryd.func41, Tryd.ntmps41
      go_wp2_with fail
      refine HP.out.mono ?_
      rintro e w1 ⟨rfl, hb1⟩
      go_wp2_with fail
      go_ret2
      exact ⟨rfl, hb1⟩
end Go.Proofs.YthjbebngedajiaaDoor
