/-
  CONTRACTS of store.Key, entry.Seq, entry.Check and the codec of api.Entry: what they compute, over this seat's program. CONDITIONS: none.
  CLOSED FACTS of this seat's program, and the codec of api.Entry. CONDITIONS: none.
  CODECS of the arguments' types over this seat's program. CONDITIONS: none.
-/
import Derived.Test.YtljkclebcoanaaaDoorFrame
namespace Go.Proofs.YtljkclebcoanaaaDoor
open Go.RowKit
open Go.ChangeShapes Go.WideShapes Go.ChangeAt

/-- an error value: nil, or an Errno -/
def errV (n : Int) : Value := if n = 0 then .nilIface else .iface 36 (.int .i64 n)
theorem errV_zero : errV 0 = .nilIface := rfl
theorem errV_ne {n : Int} (h : n ≠ 0) : errV n = .iface 36 (.int .i64 n) := if_neg h

structure E where
  key : Int
  ver : Int
  asof : Int
  gone : Bool
  text : ByteArray
def E.cells (e : E) : List Value := [.int .i64 e.key, .int .i64 e.ver, .int .i64 e.asof, .bool e.gone, .string e.text]

def keyB (k : Int) : Bool := decide (0 ≤ k) && decide (k < 8)
def seqB (n : Int) : Bool := decide (0 ≤ n) && decide (n ≤ 1000)
theorem keyB_true {k : Int} : keyB k = true ↔ 0 ≤ k ∧ k < 8 := by simp [keyB]
theorem keyB_false {k : Int} : keyB k = false ↔ k < 0 ∨ 8 ≤ k := by
  rw [← Bool.not_eq_true, keyB_true]; omega
theorem seqB_true {k : Int} : seqB k = true ↔ 0 ≤ k ∧ k ≤ 1000 := by simp [seqB]
theorem seqB_false {k : Int} : seqB k = false ↔ k < 0 ∨ 1000 < k := by
  rw [← Bool.not_eq_true, seqB_true]; omega

theorem key_any (k : Int) (w : World) : Calls Tryd.prog 16 #[.int .i64 k] w fun e w' => e = .returned (.bool (keyB k)) ∧ w = w' := by
  rcases hk : keyB k with _ | _
  · rw [keyB_false] at hk
    by_cases h0 : 0 ≤ k
    · have h8 : ¬ k < 8 := by omega
      clear hk
      go_enter Tryd.func16, Tryd.ntmps16
      go_wp2
      go_ret
      exact ⟨rfl, rfl⟩
    · clear hk
      go_enter Tryd.func16, Tryd.ntmps16
      go_wp2
      go_ret
      exact ⟨rfl, rfl⟩
  · rw [keyB_true] at hk
    obtain ⟨h0, h8⟩ := hk
    go_enter Tryd.func16, Tryd.ntmps16
    go_wp2
    go_ret
    exact ⟨rfl, rfl⟩

end Go.Proofs.YtljkclebcoanaaaDoor
namespace Go.Proofs.YtljkclebcoanaaaDoor
open Go.RowKit
open Go.ChangeShapes Go.WideShapes Go.ChangeAt

theorem Tryd.own : ownKnob Tryd.prog.godebug = none := by kernel_rfl
theorem Tryd.laidOut : laidOutB Tryd.prog = true := by kernel_rfl
theorem Tryd.cellsInt : Tryd.prog.cellsOf 3 = 1 := by kernel_rfl
theorem Tryd.cellsBool : Tryd.prog.cellsOf 4 = 1 := by kernel_rfl
theorem Tryd.cellsStr : Tryd.prog.cellsOf 9 = 1 := by kernel_rfl

/-- what is known of an entry that came in -/
def E.good (e : E) : Prop := (-9223372036854775808 ≤ e.key ∧ e.key ≤ 9223372036854775807) ∧ (-9223372036854775808 ≤ e.ver ∧ e.ver ≤ 9223372036854775807) ∧ (-9223372036854775808 ≤ e.asof ∧ e.asof ≤ 9223372036854775807) ∧ e.text.size ≤ maxLen
end Go.Proofs.YtljkclebcoanaaaDoor
namespace Go.Proofs.YtljkclebcoanaaaDoor
open Go.RowKit
open Go.ChangeShapes Go.WideShapes Go.ChangeAt

theorem hide {p : Prop} (h : p) : Hid p := h
theorem ret_i {k : IntKind} {a b : Int} (h : a = b) : Ending.returned (.int k a) = .returned (.int k b) := by rw [h]
theorem ret_b {a b : Bool} (h : a = b) : Ending.returned (.bool a) = .returned (.bool b) := by rw [h]
theorem pos_of_eq {n m : Nat} (h : n = m) (hm : 0 < m) : 0 < n := by rw [h]; exact hm
def codecStrs : Codec Tryd.prog 55 (SlV ByteArray) := Codec.slice Tryd.underlying55 (Codec.str Tryd.underlying9) (pos_of_eq Tryd.cellsStr (by decide))

/-- a row of ints as it came in -/
structure IntsAt (w : World) (s : SlV Int) : Prop where
  row : 0 < s.xs.length → ∃ b off, s.A = some ⟨b, off, none⟩ ∧ b < w.heap.size ∧ ∀ i, i < s.xs.length → w.cell? ⟨b, off + i, none⟩ = some (.int .i64 (s.xs.getD i 0))
  len : s.xs.length ≤ maxLen
/-- rows of ints as they came in -/
structure IntssAt (w : World) (s : SlV (SlV Int)) : Prop where
  row : 0 < s.xs.length → ∃ b off, s.A = some ⟨b, off, none⟩ ∧ b < w.heap.size ∧ ∀ i (hi : i < s.xs.length), w.cell? ⟨b, off + i, none⟩ = some (.slice s.xs[i].A s.xs[i].xs.length s.xs[i].c)
  each : ∀ i (hi : i < s.xs.length), IntsAt w s.xs[i]
  len : s.xs.length ≤ maxLen
/-- strings as they came in -/
structure StrsAt (w : World) (s : SlV ByteArray) : Prop where
  row : 0 < s.xs.length → ∃ b off, s.A = some ⟨b, off, none⟩ ∧ b < w.heap.size ∧ ∀ i (hi : i < s.xs.length), w.cell? ⟨b, off + i, none⟩ = some (.string s.xs[i])
  each : ∀ x ∈ s.xs, x.size ≤ maxLen
  len : s.xs.length ≤ maxLen
theorem strsAt_of {w : World} {s : SlV ByteArray} (h : codecStrs.good w s) : StrsAt w s where
  row hn := by
    obtain ⟨b, off, hA, hb, hc⟩ := h.1 hn
    refine ⟨b, off, hA, hb, fun i hi => ?_⟩
    have := hc i hi 0 (by rw [Tryd.cellsStr]; decide)
    rw [Tryd.cellsStr, Nat.mul_one, Nat.add_zero] at this
    rw [this]
    rfl
  each := h.2.1
  len := Nat.le_trans h.2.2.1 h.2.2.2
/-- entries as they came in -/
structure EntriesAt (w : World) (s : SlV E) : Prop where
  row : 0 < s.xs.length → ∃ b off, s.A = some ⟨b, off, none⟩ ∧ b < w.heap.size ∧ ∀ i (hi : i < s.xs.length) f, f < 5 → w.cell? ⟨b, off + i * 5 + f, none⟩ = (s.xs[i].cells)[f]?
  each : ∀ x ∈ s.xs, x.good
  len : s.xs.length ≤ maxLen
end Go.Proofs.YtljkclebcoanaaaDoor
