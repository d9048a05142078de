/-
  CODECS of the arguments' types over this seat's program. CONDITIONS: none.
-/
import Derived.Test.YtgamocljdbffpaaDoorOwn
namespace Go.Proofs.YtgamocljdbffpaaDoor
open Go.RowKit
open Go.ChangeShapes Go.WideShapes Go.ChangeAt

theorem hide {p : Prop} (h : p) : Hid p := h
theorem ret_i {k : IntKind} {a b : Int} (h : a = b) : Ending.returned (.int k a) = .returned (.int k b) := by rw [h]
theorem ret_b {a b : Bool} (h : a = b) : Ending.returned (.bool a) = .returned (.bool b) := by rw [h]
theorem pos_of_eq {n m : Nat} (h : n = m) (hm : 0 < m) : 0 < n := by rw [h]; exact hm
def codecInts : Codec Tryd.prog 33 (SlV Int) := Codec.slice Tryd.underlying33 (Codec.int Tryd.underlying3) (pos_of_eq Tryd.cellsInt (by decide))
theorem Tryd.cellsInts : Tryd.prog.cellsOf 33 = 1 := by kernel_rfl
def codecIntss : Codec Tryd.prog 22 (SlV (SlV Int)) := Codec.slice Tryd.underlying22 codecInts (pos_of_eq Tryd.cellsInts (by decide))
def codecEntries : Codec Tryd.prog 23 (SlV E) := Codec.slice Tryd.underlying23 codecEntry (pos_of_eq Tryd.cellsEntry (by decide))

/-- a row of ints as it came in -/
structure IntsAt (w : World) (s : SlV Int) : Prop where
  row : 0 < s.xs.length → ∃ b off, s.A = some ⟨b, off, none⟩ ∧ b < w.heap.size ∧ ∀ i, i < s.xs.length → w.cell? ⟨b, off + i, none⟩ = some (.int .i64 (s.xs.getD i 0))
  len : s.xs.length ≤ maxLen
theorem intsAt_of {w : World} {s : SlV Int} (h : codecInts.good w s) : IntsAt w s where
  row hn := by
    obtain ⟨b, off, hA, hb, hc⟩ := h.1 hn
    refine ⟨b, off, hA, hb, fun i hi => ?_⟩
    have := hc i hi 0 (by rw [Tryd.cellsInt]; decide)
    rw [Tryd.cellsInt, Nat.mul_one, Nat.add_zero] at this
    rw [this]
    simp [Codec.int, List.getD, List.getElem?_eq_getElem hi]
  len := Nat.le_trans h.2.2.1 h.2.2.2
/-- rows of ints as they came in -/
structure IntssAt (w : World) (s : SlV (SlV Int)) : Prop where
  row : 0 < s.xs.length → ∃ b off, s.A = some ⟨b, off, none⟩ ∧ b < w.heap.size ∧ ∀ i (hi : i < s.xs.length), w.cell? ⟨b, off + i, none⟩ = some (.slice s.xs[i].A s.xs[i].xs.length s.xs[i].c)
  each : ∀ i (hi : i < s.xs.length), IntsAt w s.xs[i]
  len : s.xs.length ≤ maxLen
theorem intssAt_of {w : World} {s : SlV (SlV Int)} (h : codecIntss.good w s) : IntssAt w s where
  row hn := by
    obtain ⟨b, off, hA, hb, hc⟩ := h.1 hn
    refine ⟨b, off, hA, hb, fun i hi => ?_⟩
    have := hc i hi 0 (by rw [Tryd.cellsInts]; decide)
    rw [Tryd.cellsInts, Nat.mul_one, Nat.add_zero] at this
    rw [this]
    rfl
  each i hi := intsAt_of (h.2.1 _ (List.getElem_mem hi))
  len := Nat.le_trans h.2.2.1 h.2.2.2
/-- strings as they came in -/
structure StrsAt (w : World) (s : SlV ByteArray) : Prop where
  row : 0 < s.xs.length → ∃ b off, s.A = some ⟨b, off, none⟩ ∧ b < w.heap.size ∧ ∀ i (hi : i < s.xs.length), w.cell? ⟨b, off + i, none⟩ = some (.string s.xs[i])
  each : ∀ x ∈ s.xs, x.size ≤ maxLen
  len : s.xs.length ≤ maxLen
/-- entries as they came in -/
structure EntriesAt (w : World) (s : SlV E) : Prop where
  row : 0 < s.xs.length → ∃ b off, s.A = some ⟨b, off, none⟩ ∧ b < w.heap.size ∧ ∀ i (hi : i < s.xs.length) f, f < 5 → w.cell? ⟨b, off + i * 5 + f, none⟩ = (s.xs[i].cells)[f]?
  each : ∀ x ∈ s.xs, x.good
  len : s.xs.length ≤ maxLen
theorem entriesAt_of {w : World} {s : SlV E} (h : codecEntries.good w s) : EntriesAt w s where
  row hn := by
    obtain ⟨b, off, hA, hb, hc⟩ := h.1 hn
    refine ⟨b, off, hA, hb, fun i hi f hf => ?_⟩
    have := hc i hi f (by rw [Tryd.cellsEntry]; exact hf)
    rw [Tryd.cellsEntry] at this
    exact this
  each := h.2.1
  len := Nat.le_trans h.2.2.1 h.2.2.2
end Go.Proofs.YtgamocljdbffpaaDoor
