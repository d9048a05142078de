/-
  CONTRACT of repair.Read. CONDITIONS: none.
-/
import Derived.Test.YtlcbdhblaamekaaDoorTomb
namespace Go.Proofs.YtlcbdhblaamekaaDoor
open Go.RowKit
open Go.ChangeShapes Go.WideShapes Go.ChangeAt

/-- what is read: what was found so far, and the caches left -/
def readG (k : Int) : Bool → E → List (SlV E) → E × Int
  | f, o, [] => if f = true then (o, 0) else (E.zero, 5)
  | f, o, c :: r =>
    if hasK k c.xs = true then
      (if f = true then (if (joined o (c.xs.getD (plc k c.xs) E.zero)).2 = 0 then readG k true (joined o (c.xs.getD (plc k c.xs) E.zero)).1 r else (E.zero, (joined o (c.xs.getD (plc k c.xs) E.zero)).2))
       else readG k true (c.xs.getD (plc k c.xs) E.zero) r)
    else readG k f o r
def readR (l : List (SlV E)) (k : Int) : E × Int := if chkTK l k = 0 then readG k false E.zero l else (E.zero, chkTK l k)
theorem chkTs_ok : ∀ {l : List (SlV E)}, chkTs l = 0 → ∀ c ∈ l, chkC c.xs = 0
  | [], _ => by simp
  | c :: r, h => by
    rw [chkTs] at h
    split at h
    · rename_i h1
      intro x hx
      rcases List.mem_cons.1 hx with rfl | hx
      · exact h1
      · exact chkTs_ok h x hx
    · rename_i h1
      exact absurd h h1
theorem chkTK_ok {l : List (SlV E)} {k : Int} (h : chkTK l k = 0) : (1 ≤ l.length ∧ l.length ≤ 6) ∧ (∀ c ∈ l, chkC c.xs = 0) ∧ keyB k = true := by
  unfold chkTK at h
  split at h
  · rename_i h1
    split at h
    · rename_i h2
      unfold chkT at h1
      split at h1
      · cases h1
      · split at h1
        · cases h1
        · exact ⟨by omega, chkTs_ok h1, h2⟩
    · cases h
  · rename_i h1
    exact absurd h h1

end Go.Proofs.YtlcbdhblaamekaaDoor
