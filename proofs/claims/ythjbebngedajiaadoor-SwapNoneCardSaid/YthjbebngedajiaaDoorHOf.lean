/-
  THE CONTRACTS of hash.Of and hash.Text: the number of a text. CONDITIONS: the text has at most 1000 bytes (Of).
-/
import Derived.Test.YthjbebngedajiaaDoorHLaw
import Derived.Test.YthjbebngedajiaaDoorEntry
import Derived.Lib.ConvBytes
namespace Go.Proofs.YthjbebngedajiaaDoor
open Go.RowKit
open Go.ChangeShapes Go.WideShapes Go.ChangeAt

theorem bytesOf_len (s : ByteArray) : (bytesOf s).length = s.size := by simp [bytesOf]
theorem hash_take (s : ByteArray) {j : Nat} (hj : j < s.size) : hashL ((bytesOf s).take (j + 1)) = hstep (hashL ((bytesOf s).take j)) ((bytesOf s).getD j 0) := by
  have hl : j < (bytesOf s).length := by rw [bytesOf_len]; exact hj
  rw [List.take_succ_eq_append_getElem hl, hash_snoc]
  congr 1
  rw [List.getD_eq_getElem?_getD, List.getElem?_eq_getElem hl]
  rfl
theorem bytesWorld_below (w : World) (e : TypeId) (s : ByteArray) : Below w.heap.size w (Go.Lib.bytesWorld w e s) :=
  ⟨rfl, rfl, rfl, by rw [Go.Lib.bytesWorld_size]; omega, fun i hi => Go.Lib.bytesWorld_at_old w e s i hi⟩

set_option maxRecDepth 100000 in
theorem of_any (s : ByteArray) (w : World) (hs : s.size ≤ 1000) : Calls Tryd.prog 83 #[.string s] w fun e w' => e = .returned (.int .i64 (hashL (bytesOf s) : Nat)) ∧ Below w.heap.size w w' := by
  have hcv := Go.Lib.run_convert_string_bytes (P := Tryd.prog) w 9 135 5 s Tryd.underlying9 Tryd.underlying135 Tryd.underlying5
  have hb := bytesWorld_below w 5 s
  have Hc := hid (fun j (hj : j < s.size) => Go.Lib.bytesWorld_cell w 5 s j hj)
  generalize Go.Lib.bytesWorld w 5 s = w1 at *
  generalize grownCap w s.size 0 5 = cap at *
  have Hb := hid hb
  clear hb
  go_enter Tryd.func83, Tryd.ntmps83
  go_wp2_with fail
  go_loopw [3, 9] (fun n i wr => ∃ j : Nat, j ≤ s.size ∧ i = .int .i64 j ∧ n = .int .i64 (hashL ((bytesOf s).take j) : Nat) ∧ wr = w1) (fun _ i _ => s.size - (intOf i).toNat)
  case atStart => exact ⟨0, Nat.zero_le _, rfl, rfl, rfl⟩
  case round =>
    obtain ⟨j, hj, rfl, rfl, rfl⟩ := hrel
    by_cases hlt : j < s.size
    · have hcell := Hc.out j hlt
      have hst := hash_take s hlt
      have hn := hash_lt ((bytesOf s).take j)
      rw [show (s.data.toList.getD j 0) = (bytesOf s).getD j 0 from rfl] at hcell
      generalize (bytesOf s).getD j 0 = c at *
      generalize hashL ((bytesOf s).take j) = n at *
      have hc256 := c.toNat_lt
      have hx := bits_xor_i64_nat n c.toNat hn (by omega)
      have hxl := xor_lt32 (b := c.toNat) hn (by omega)
      have Hst := hid hst
      unfold hstep at Hst
      clear hst
      generalize n ^^^ c.toNat = y at *
      go_wp2_with fail
      go_roundw
      case rel =>
        refine ⟨j + 1, by omega, by go_num, ?_, trivial⟩
        rw [Hst.out]
        go_num
      case measure => simp [intOf]; omega
    · obtain rfl : j = s.size := by omega
      have HF := hid (show hashL ((bytesOf s).take s.size) = hashL (bytesOf s) by rw [← bytesOf_len, List.take_length])
      go_wp2_with fail
      go_ret
      exact ⟨by rw [HF.out]; rfl, Hb.out⟩

/-- What hash.Text tells: the number, the fault. -/
def textN (s : ByteArray) : Int := if s.size ≤ 60 then (hashL (bytesOf s) : Nat) else 0
def textE (s : ByteArray) : Int := if s.size ≤ 60 then 0 else 4
end Go.Proofs.YthjbebngedajiaaDoor
