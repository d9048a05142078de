/-
  WHAT ring.Points AND ring.Owners HAND ON, as slices to be read. CONDITIONS: as ring.Points'.
-/
import Derived.Test.YtepddjfbkjplfaaGreatDoorRgOwn
namespace Go.Proofs.YtepddjfbkjplfaaGreatDoor
open Go.RowKit
open Go.ChangeShapes Go.WideShapes Go.ChangeAt

theorem ptsC_good {l : List Int} {each : Nat} (hn : ∀ n ∈ l, nodeB n = true) : ∀ x ∈ ptsC l each, x.good := fun x hx => by
  obtain ⟨n, hm, i, hi, rfl⟩ := ptsC_mem.1 hx
  have h1 := hashP_lt n i
  have h2 := nodeB_true.1 (hn n hm)
  unfold Pt.good
  simp only
  omega
/-- what ring.Points gives -/
def GPts (w : World) (l : List Int) (each : Int) (e : Ending) (w' : World) : Prop :=
  ∃ r : SlV Pt, e = .returned (.tuple #[.slice r.A r.xs.length r.c, errV (ptsE l each)]) ∧ r.xs = (if ptsE l each = 0 then ptsC l each.toNat else []) ∧ PtsAt w' r ∧ r.ok ∧ Below w.heap.size w w'
theorem gpoints_any (s : SlV Int) (each : Int) (w : World) (hs : IntsAt w s) (hok : s.ok) (htb : Tb w) :
    Calls Tryz.prog 6 #[.slice s.A s.xs.length s.c, .int .i64 each] w (GPts w s.xs each) := by
  refine (rpoints_any s each w hs hok htb).mono ?_
  rintro e w' ⟨v, rfl, hO, hb⟩
  obtain ⟨r, rfl, hrx, hrA, hro, -⟩ := PtsAt.of_ow hO (fun x hx => by
    split at hx
    · rename_i h
      exact ptsC_good (ptsE_ok h).1.2.2 x hx
    · cases hx)
  exact ⟨r, rfl, hrx, hrA, hro, hb⟩
theorem ptsE_one {node each : Int} (h : ptsE [node] each ≠ 0) : node < 0 ∨ 5 < node ∨ each < 1 ∨ 8 < each := by
  have h2 : ptsE [node] each = if rnodesE [node] = 0 then (if each < 1 ∨ 8 < each then 1 else 0) else rnodesE [node] := rfl
  have h3 : rnodesE [node] = if nodeB node = true then 0 else 1 := by
    show (if ([node] : List Int).length = 0 then (5 : Int) else if 6 < ([node] : List Int).length then 4 else rnodesF [] [node]) = _
    rw [if_neg (by simp), if_neg (by simp)]
    show (if nodeB node = true then (if inL node [] = true then (7 : Int) else rnodesF ([] ++ [node]) []) else 1) = _
    rfl
  rcases hb : nodeB node with _ | _
  · have := nodeB_false.1 hb; omega
  · rw [hb, if_pos rfl] at h3
    rw [h2, h3, if_pos rfl] at h
    split at h
    · omega
    · exact absurd rfl h
end Go.Proofs.YtepddjfbkjplfaaGreatDoor
