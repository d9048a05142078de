/-
  CONTRACTS of store.Key, entry.Seq, entry.Check and the codec of api.Entry: what they compute, over this seat's program. CONDITIONS: none.
  CLOSED FACTS of this seat's program, and the codec of api.Entry. CONDITIONS: none.
  CODECS of the arguments' types over this seat's program. CONDITIONS: none.
-/
import Derived.Test.YtneilklimpdeoaaGreatDoorFrame
namespace Go.Proofs.YtneilklimpdeoaaGreatDoor
open Go.RowKit
open Go.ChangeShapes Go.WideShapes Go.ChangeAt

/-- an error value: nil, or an Errno -/
def errV (n : Int) : Value := if n = 0 then .nilIface else .iface 58 (.int .i64 n)
theorem errV_zero : errV 0 = .nilIface := rfl
theorem errV_ne {n : Int} (h : n ≠ 0) : errV n = .iface 58 (.int .i64 n) := if_neg h

structure E where
  key : Int
  ver : Int
  asof : Int
  gone : Bool
  text : ByteArray
def E.cells (e : E) : List Value := [.int .i64 e.key, .int .i64 e.ver, .int .i64 e.asof, .bool e.gone, .string e.text]

def keyB (k : Int) : Bool := decide (0 ≤ k) && decide (k < 8)
def seqB (n : Int) : Bool := decide (0 ≤ n) && decide (n ≤ 1000)
theorem keyB_true {k : Int} : keyB k = true ↔ 0 ≤ k ∧ k < 8 := by simp [keyB]
theorem keyB_false {k : Int} : keyB k = false ↔ k < 0 ∨ 8 ≤ k := by
  rw [← Bool.not_eq_true, keyB_true]; omega
theorem seqB_true {k : Int} : seqB k = true ↔ 0 ≤ k ∧ k ≤ 1000 := by simp [seqB]
theorem seqB_false {k : Int} : seqB k = false ↔ k < 0 ∨ 1000 < k := by
  rw [← Bool.not_eq_true, seqB_true]; omega

theorem key_any (k : Int) (w : World) : Calls Tryz.prog 29 #[.int .i64 k] w fun e w' => e = .returned (.bool (keyB k)) ∧ w = w' := by
  rcases hk : keyB k with _ | _
  · rw [keyB_false] at hk
    by_cases h0 : 0 ≤ k
    · have h8 : ¬ k < 8 := by omega
      clear hk
      go_enter Tryz.func29, Tryz.ntmps29
      go_wp2
      go_ret
      exact ⟨rfl, rfl⟩
    · clear hk
      go_enter Tryz.func29, Tryz.ntmps29
      go_wp2
      go_ret
      exact ⟨rfl, rfl⟩
  · rw [keyB_true] at hk
    obtain ⟨h0, h8⟩ := hk
    go_enter Tryz.func29, Tryz.ntmps29
    go_wp2
    go_ret
    exact ⟨rfl, rfl⟩

theorem seq_any (k : Int) (w : World) : Calls Tryz.prog 82 #[.int .i64 k] w fun e w' => e = .returned (.bool (seqB k)) ∧ w = w' := by
  rcases hk : seqB k with _ | _
  · rw [seqB_false] at hk
    by_cases h0 : 0 ≤ k
    · have h8 : ¬ k ≤ 1000 := by omega
      clear hk
      go_enter Tryz.func82, Tryz.ntmps82
      go_wp2
      go_ret
      exact ⟨rfl, rfl⟩
    · clear hk
      go_enter Tryz.func82, Tryz.ntmps82
      go_wp2
      go_ret
      exact ⟨rfl, rfl⟩
  · rw [seqB_true] at hk
    obtain ⟨h0, h8⟩ := hk
    go_enter Tryz.func82, Tryz.ntmps82
    go_wp2
    go_ret
    exact ⟨rfl, rfl⟩
end Go.Proofs.YtneilklimpdeoaaGreatDoor
namespace Go.Proofs.YtneilklimpdeoaaGreatDoor
open Go.RowKit
open Go.ChangeShapes Go.WideShapes Go.ChangeAt

theorem Tryz.own : ownKnob Tryz.prog.godebug = none := by kernel_rfl
theorem Tryz.laidOut : laidOutB Tryz.prog = true := by kernel_rfl
theorem Tryz.cellsEntry : Tryz.prog.cellsOf 46 = 5 := by kernel_rfl
theorem Tryz.cellsInt : Tryz.prog.cellsOf 3 = 1 := by kernel_rfl
theorem Tryz.cellsBool : Tryz.prog.cellsOf 4 = 1 := by kernel_rfl
theorem Tryz.cellsStr : Tryz.prog.cellsOf 9 = 1 := by kernel_rfl

/-- what is known of an entry that came in -/
def E.good (e : E) : Prop := (-9223372036854775808 ≤ e.key ∧ e.key ≤ 9223372036854775807) ∧ (-9223372036854775808 ≤ e.ver ∧ e.ver ≤ 9223372036854775807) ∧ (-9223372036854775808 ≤ e.asof ∧ e.asof ≤ 9223372036854775807) ∧ e.text.size ≤ maxLen
def codecEntry : Codec Tryz.prog 46 E where
  cells e := e.cells
  good _ e := e.good
  opens h := by
    obtain ⟨hlen, n, hf⟩ := trod_fields Tryz.underlying46 (by kernel_rfl) (by kernel_rfl) h
    obtain ⟨c0, y0, e0, h0⟩ := hf 0 _ rfl
    obtain ⟨c1, y1, e1, h1⟩ := hf 1 _ rfl
    obtain ⟨c2, y2, e2, h2⟩ := hf 2 _ rfl
    obtain ⟨c3, y3, e3, h3⟩ := hf 3 _ rfl
    obtain ⟨c4, y4, e4, h4⟩ := hf 4 _ rfl
    obtain ⟨k, hk, hgk⟩ := (Codec.int Tryz.underlying3).opens h0
    obtain ⟨v, hv, hgv⟩ := (Codec.int Tryz.underlying3).opens h1
    obtain ⟨a, ha, hga⟩ := (Codec.int Tryz.underlying3).opens h2
    obtain ⟨g, hg, _⟩ := (Codec.bool Tryz.underlying4).opens h3
    obtain ⟨t, ht, hgt⟩ := (Codec.str Tryz.underlying9).opens h4
    simp only [Codec.int, Codec.bool, Codec.str, List.cons.injEq, and_true] at hk hv ha hg ht
    subst hk hv ha hg ht
    refine ⟨⟨k, v, a, g, t⟩, ?_, hgk, hgv, hga, hgt⟩
    apply List.ext_getElem?
    intro i
    match i with
    | 0 => exact e0
    | 1 => exact e1
    | 2 => exact e2
    | 3 => exact e3
    | 4 => exact e4
    | i + 5 => rw [List.getElem?_eq_none (by rw [hlen]; exact Nat.le_add_left 5 i), List.getElem?_eq_none (by simp [E.cells])]
  stays h _ := h
end Go.Proofs.YtneilklimpdeoaaGreatDoor
namespace Go.Proofs.YtneilklimpdeoaaGreatDoor
open Go.RowKit
open Go.ChangeShapes Go.WideShapes Go.ChangeAt

theorem hide {p : Prop} (h : p) : Hid p := h
theorem ret_i {k : IntKind} {a b : Int} (h : a = b) : Ending.returned (.int k a) = .returned (.int k b) := by rw [h]
theorem ret_b {a b : Bool} (h : a = b) : Ending.returned (.bool a) = .returned (.bool b) := by rw [h]
theorem pos_of_eq {n m : Nat} (h : n = m) (hm : 0 < m) : 0 < n := by rw [h]; exact hm
def codecInts : Codec Tryz.prog 39 (SlV Int) := Codec.slice Tryz.underlying39 (Codec.int Tryz.underlying3) (pos_of_eq Tryz.cellsInt (by decide))
theorem Tryz.cellsInts : Tryz.prog.cellsOf 39 = 1 := by kernel_rfl
def codecIntss : Codec Tryz.prog 22 (SlV (SlV Int)) := Codec.slice Tryz.underlying22 codecInts (pos_of_eq Tryz.cellsInts (by decide))
def codecStrs : Codec Tryz.prog 23 (SlV ByteArray) := Codec.slice Tryz.underlying23 (Codec.str Tryz.underlying9) (pos_of_eq Tryz.cellsStr (by decide))
def codecEntries : Codec Tryz.prog 32 (SlV E) := Codec.slice Tryz.underlying32 codecEntry (pos_of_eq Tryz.cellsEntry (by decide))
theorem Tryz.cellsEntries : Tryz.prog.cellsOf 32 = 1 := by kernel_rfl
def codecEntriess : Codec Tryz.prog 35 (SlV (SlV E)) := Codec.slice Tryz.underlying35 codecEntries (pos_of_eq Tryz.cellsEntries (by decide))

/-- a row of ints as it came in -/
structure IntsAt (w : World) (s : SlV Int) : Prop where
  row : 0 < s.xs.length → ∃ b off, s.A = some ⟨b, off, none⟩ ∧ b < w.heap.size ∧ ∀ i, i < s.xs.length → w.cell? ⟨b, off + i, none⟩ = some (.int .i64 (s.xs.getD i 0))
  len : s.xs.length ≤ maxLen
theorem intsAt_of {w : World} {s : SlV Int} (h : codecInts.good w s) : IntsAt w s where
  row hn := by
    obtain ⟨b, off, hA, hb, hc⟩ := h.1 hn
    refine ⟨b, off, hA, hb, fun i hi => ?_⟩
    have := hc i hi 0 (by rw [Tryz.cellsInt]; decide)
    rw [Tryz.cellsInt, Nat.mul_one, Nat.add_zero] at this
    rw [this]
    simp [Codec.int, List.getD, List.getElem?_eq_getElem hi]
  len := Nat.le_trans h.2.2.1 h.2.2.2
/-- rows of ints as they came in -/
structure IntssAt (w : World) (s : SlV (SlV Int)) : Prop where
  row : 0 < s.xs.length → ∃ b off, s.A = some ⟨b, off, none⟩ ∧ b < w.heap.size ∧ ∀ i (hi : i < s.xs.length), w.cell? ⟨b, off + i, none⟩ = some (.slice s.xs[i].A s.xs[i].xs.length s.xs[i].c)
  each : ∀ i (hi : i < s.xs.length), IntsAt w s.xs[i]
  len : s.xs.length ≤ maxLen
theorem intssAt_of {w : World} {s : SlV (SlV Int)} (h : codecIntss.good w s) : IntssAt w s where
  row hn := by
    obtain ⟨b, off, hA, hb, hc⟩ := h.1 hn
    refine ⟨b, off, hA, hb, fun i hi => ?_⟩
    have := hc i hi 0 (by rw [Tryz.cellsInts]; decide)
    rw [Tryz.cellsInts, Nat.mul_one, Nat.add_zero] at this
    rw [this]
    rfl
  each i hi := intsAt_of (h.2.1 _ (List.getElem_mem hi))
  len := Nat.le_trans h.2.2.1 h.2.2.2
/-- strings as they came in -/
structure StrsAt (w : World) (s : SlV ByteArray) : Prop where
  row : 0 < s.xs.length → ∃ b off, s.A = some ⟨b, off, none⟩ ∧ b < w.heap.size ∧ ∀ i (hi : i < s.xs.length), w.cell? ⟨b, off + i, none⟩ = some (.string s.xs[i])
  each : ∀ x ∈ s.xs, x.size ≤ maxLen
  len : s.xs.length ≤ maxLen
theorem strsAt_of {w : World} {s : SlV ByteArray} (h : codecStrs.good w s) : StrsAt w s where
  row hn := by
    obtain ⟨b, off, hA, hb, hc⟩ := h.1 hn
    refine ⟨b, off, hA, hb, fun i hi => ?_⟩
    have := hc i hi 0 (by rw [Tryz.cellsStr]; decide)
    rw [Tryz.cellsStr, Nat.mul_one, Nat.add_zero] at this
    rw [this]
    rfl
  each := h.2.1
  len := Nat.le_trans h.2.2.1 h.2.2.2
/-- entries as they came in -/
structure EntriesAt (w : World) (s : SlV E) : Prop where
  row : 0 < s.xs.length → ∃ b off, s.A = some ⟨b, off, none⟩ ∧ b < w.heap.size ∧ ∀ i (hi : i < s.xs.length) f, f < 5 → w.cell? ⟨b, off + i * 5 + f, none⟩ = (s.xs[i].cells)[f]?
  each : ∀ x ∈ s.xs, x.good
  len : s.xs.length ≤ maxLen
theorem entriesAt_of {w : World} {s : SlV E} (h : codecEntries.good w s) : EntriesAt w s where
  row hn := by
    obtain ⟨b, off, hA, hb, hc⟩ := h.1 hn
    refine ⟨b, off, hA, hb, fun i hi f hf => ?_⟩
    have := hc i hi f (by rw [Tryz.cellsEntry]; exact hf)
    rw [Tryz.cellsEntry] at this
    exact this
  each := h.2.1
  len := Nat.le_trans h.2.2.1 h.2.2.2
end Go.Proofs.YtneilklimpdeoaaGreatDoor
