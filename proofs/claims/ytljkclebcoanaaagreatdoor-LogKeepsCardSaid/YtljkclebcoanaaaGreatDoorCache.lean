/-
  CONTRACTS of package cache: Place (with slices.BinarySearchFunc). CONDITIONS: none.
-/
import Derived.Test.YtljkclebcoanaaaGreatDoorEntry
import Derived.Test.YtljkclebcoanaaaGreatDoorJoin
import Derived.BigQuiet
import Derived.Deep.QuietTactic
namespace Go.Proofs.YtljkclebcoanaaaGreatDoor
open Go.RowKit
open Go.ChangeShapes Go.WideShapes Go.ChangeAt

/-- an entry's cells at a place -/
structure EAt (w : World) (b o : Nat) (e : E) : Prop where
  c0 : w.cell? ⟨b, o, none⟩ = some (.int .i64 e.key)
  c1 : w.cell? ⟨b, o + 1, none⟩ = some (.int .i64 e.ver)
  c2 : w.cell? ⟨b, o + 2, none⟩ = some (.int .i64 e.asof)
  c3 : w.cell? ⟨b, o + 3, none⟩ = some (.bool e.gone)
  c4 : w.cell? ⟨b, o + 4, none⟩ = some (.string e.text)
theorem EAt.stays {w w' : World} {b o : Nat} {e : E} (h : EAt w b o e) (hb : Below w.heap.size w w') (hl : b < w.heap.size) : EAt w' b o e :=
  ⟨(hb.cell (p := ⟨b, _, none⟩) hl).trans h.c0, (hb.cell (p := ⟨b, _, none⟩) hl).trans h.c1, (hb.cell (p := ⟨b, _, none⟩) hl).trans h.c2, (hb.cell (p := ⟨b, _, none⟩) hl).trans h.c3, (hb.cell (p := ⟨b, _, none⟩) hl).trans h.c4⟩
theorem EntriesAt.get {w : World} {s : SlV E} (h : EntriesAt w s) (h0 : 0 < s.xs.length) : ∃ b off, s.A = some ⟨b, off, none⟩ ∧ b < w.heap.size ∧ ∀ i, i < s.xs.length → EAt w b (off + i * 5) (s.xs.getD i E.zero) := by
  obtain ⟨b, off, hA, hb, hc⟩ := h.row h0
  refine ⟨b, off, hA, hb, fun i hi => ?_⟩
  have e : s.xs.getD i E.zero = s.xs[i] := by simp [List.getD, List.getElem?_eq_getElem hi]
  rw [e]
  exact ⟨hc i hi 0 (by decide), hc i hi 1 (by decide), hc i hi 2 (by decide), hc i hi 3 (by decide), hc i hi 4 (by decide)⟩
theorem EntriesAt.stays {w w' : World} {s : SlV E} (h : EntriesAt w s) (hb : Below w.heap.size w w') : EntriesAt w' s := ⟨fun h0 => by
    obtain ⟨b', off', h1, h2, h3⟩ := h.row h0
    exact ⟨b', off', h1, Nat.lt_of_lt_of_le h2 hb.size, fun i hi f hf => (hb.cell (p := ⟨b', _, none⟩) h2).trans (h3 i hi f hf)⟩, h.each, h.len⟩
theorem EntriesAt.empty (w : World) : EntriesAt w ⟨none, 0, []⟩ := ⟨(fun h => by cases h), (fun x hx => by cases hx), Nat.zero_le _⟩

/-- keys ascend -/
def SortedK (l : List E) : Prop := ∀ a b, a < b → b < l.length → (l.getD a E.zero).key < (l.getD b E.zero).key
/-- keys in range -/
def KeysIn (l : List E) : Prop := ∀ a, a < l.length → 0 ≤ (l.getD a E.zero).key ∧ (l.getD a E.zero).key < 8
/-- how many are ahead of a key -/
def plc (k : Int) : List E → Nat
  | [] => 0
  | e :: r => if e.key < k then plc k r + 1 else 0
theorem plc_eq {k : Int} : ∀ (l : List E) (i : Nat), i ≤ l.length → (∀ t, t < i → (l.getD t E.zero).key < k) → (i < l.length → k ≤ (l.getD i E.zero).key) → plc k l = i
  | [], i, hi, _, _ => by simp at hi; simp [hi, plc]
  | e :: r, 0, _, _, h2 => by
    have := h2 (by simp)
    simp at this
    rw [plc, if_neg (by omega)]
  | e :: r, i + 1, hi, h1, h2 => by
    have h0 := h1 0 (by omega)
    simp at h0
    rw [plc, if_pos h0, plc_eq r i (by simpa using hi) (fun t ht => by simpa using h1 (t + 1) (by omega)) (fun ht => by simpa using h2 (by simpa using ht))]
def hasK (k : Int) (l : List E) : Bool := decide (plc k l < l.length) && decide ((l.getD (plc k l) E.zero).key = k)

end Go.Proofs.YtljkclebcoanaaaGreatDoor
