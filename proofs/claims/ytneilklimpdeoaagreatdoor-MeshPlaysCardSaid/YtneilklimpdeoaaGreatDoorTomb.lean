/-
  CONTRACTS of package tomb: Caches, Key. CONDITIONS: none.
  CONTRACT of repair.Read. CONDITIONS: none.
-/
import Derived.Test.YtneilklimpdeoaaGreatDoorCCheck
namespace Go.Proofs.YtneilklimpdeoaaGreatDoor
open Go.RowKit
open Go.ChangeShapes Go.WideShapes Go.ChangeAt

/-- caches as they came in -/
structure CachesAt (w : World) (s : SlV (SlV E)) : Prop where
  row : 0 < s.xs.length → ∃ b off, s.A = some ⟨b, off, none⟩ ∧ b < w.heap.size ∧ ∀ i (hi : i < s.xs.length), w.cell? ⟨b, off + i, none⟩ = some (.slice s.xs[i].A s.xs[i].xs.length s.xs[i].c)
  each : ∀ i (hi : i < s.xs.length), EntriesAt w s.xs[i]
  len : s.xs.length ≤ maxLen
theorem CachesAt.stays {w w' : World} {s : SlV (SlV E)} (h : CachesAt w s) (hb : Below w.heap.size w w') : CachesAt w' s := ⟨fun h0 => by
    obtain ⟨b', off', h1, h2, h3⟩ := h.row h0
    exact ⟨b', off', h1, Nat.lt_of_lt_of_le h2 hb.size, fun i hi => (hb.cell (p := ⟨b', _, none⟩) h2).trans (h3 i hi)⟩, fun i hi => (h.each i hi).stays hb, h.len⟩

def chkTs : List (SlV E) → Int
  | [] => 0
  | c :: r => if chkC c.xs = 0 then chkTs r else chkC c.xs
def chkT (l : List (SlV E)) : Int := if l.length = 0 then 5 else if 6 < l.length then 4 else chkTs l
def chkTK (l : List (SlV E)) (k : Int) : Int := if chkT l = 0 then (if keyB k = true then 0 else 1) else chkT l

end Go.Proofs.YtneilklimpdeoaaGreatDoor
namespace Go.Proofs.YtneilklimpdeoaaGreatDoor
open Go.RowKit
open Go.ChangeShapes Go.WideShapes Go.ChangeAt

/-- what is read: what was found so far, and the caches left -/
def readG (k : Int) : Bool → E → List (SlV E) → E × Int
  | f, o, [] => if f = true then (o, 0) else (E.zero, 5)
  | f, o, c :: r =>
    if hasK k c.xs = true then
      (if f = true then (if (joined o (c.xs.getD (plc k c.xs) E.zero)).2 = 0 then readG k true (joined o (c.xs.getD (plc k c.xs) E.zero)).1 r else (E.zero, (joined o (c.xs.getD (plc k c.xs) E.zero)).2))
       else readG k true (c.xs.getD (plc k c.xs) E.zero) r)
    else readG k f o r
def readR (l : List (SlV E)) (k : Int) : E × Int := if chkTK l k = 0 then readG k false E.zero l else (E.zero, chkTK l k)
theorem chkTs_ok : ∀ {l : List (SlV E)}, chkTs l = 0 → ∀ c ∈ l, chkC c.xs = 0
  | [], _ => by simp
  | c :: r, h => by
    rw [chkTs] at h
    split at h
    · rename_i h1
      intro x hx
      rcases List.mem_cons.1 hx with rfl | hx
      · exact h1
      · exact chkTs_ok h x hx
    · rename_i h1
      exact absurd h h1
theorem chkTK_ok {l : List (SlV E)} {k : Int} (h : chkTK l k = 0) : (1 ≤ l.length ∧ l.length ≤ 6) ∧ (∀ c ∈ l, chkC c.xs = 0) ∧ keyB k = true := by
  unfold chkTK at h
  split at h
  · rename_i h1
    split at h
    · rename_i h2
      unfold chkT at h1
      split at h1
      · cases h1
      · split at h1
        · cases h1
        · exact ⟨by omega, chkTs_ok h1, h2⟩
    · cases h
  · rename_i h1
    exact absurd h h1

end Go.Proofs.YtneilklimpdeoaaGreatDoor
