/-
  WHAT the reference's Add does, in plain: an entry put at its key. CONDITIONS: none.
-/
import Derived.Test.YthjbebngedajiaaDoorRCache
namespace Go.Proofs.YthjbebngedajiaaDoor
open Go.RowKit
open Go.ChangeShapes Go.WideShapes Go.ChangeAt

/-- the loop of Add behind any entry: put already, or not yet -/
def rgo (e : E) : Bool → List E → List E
  | p, [] => if p = true then [] else [e]
  | p, x :: r => if p = true then (if x.key = e.key then rgo e true r else x :: rgo e true r)
    else if e.key ≤ x.key then (if x.key = e.key then e :: rgo e true r else e :: x :: rgo e true r)
    else x :: rgo e false r
theorem rgo_true : ∀ {l : List E} (e : E), (∀ x ∈ l, x.key ≠ e.key) → rgo e true l = l
  | [], e, _ => by rw [rgo, if_pos rfl]
  | x :: r, e, h => by
    rw [rgo, if_pos rfl, if_neg (h x (by simp)), rgo_true e (fun y hy => h y (by simp [hy]))]
theorem rgo_put : ∀ {l : List E} (e : E), Asc l → rgo e false l = put l e
  | [], e, _ => by rw [rgo, if_neg (by decide), put]
  | x :: r, e, h => by
    obtain ⟨h1, h2⟩ := List.pairwise_cons.1 h
    rw [rgo, if_neg (by decide), put]
    by_cases hle : e.key ≤ x.key
    · have ht : rgo e true r = r := rgo_true e (fun y hy => by have := h1 y hy; omega)
      rw [if_pos hle, if_neg (by omega : ¬ x.key < e.key), ht]
    · rw [if_neg hle, if_pos (by omega : x.key < e.key), rgo_put e h2]
/-- what the reference's Add tells -/
def radd (l : List E) (e : E) : List E × Int :=
  if (rget l e.key).2 = true then (if (rjoin (rget l e.key).1 e).2 = 0 then (rgo (rjoin (rget l e.key).1 e).1 false l, 0) else ([], (rjoin (rget l e.key).1 e).2)) else (rgo e false l, 0)
def RARes (w : World) (r : List E × Int) (e : Ending) (w' : World) : Prop :=
  ∃ v, e = .returned (.tuple #[v, .int .i64 r.2]) ∧ Ow E.cells 5 w.heap.size 26 w' v r.1 ∧ Below w.heap.size w w'
end Go.Proofs.YthjbebngedajiaaDoor
