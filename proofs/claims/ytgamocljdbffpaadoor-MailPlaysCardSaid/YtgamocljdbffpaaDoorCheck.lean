/-
  CONTRACT of entry.Check. CONDITIONS: none.
-/
import Derived.Test.YtgamocljdbffpaaDoorEntry
namespace Go.Proofs.YtgamocljdbffpaaDoor
open Go.RowKit
open Go.ChangeShapes Go.WideShapes Go.ChangeAt

def chk (e : E) : Int :=
  if (!keyB e.key || !seqB e.ver || !seqB e.asof || decide (e.asof < e.ver)) = true then 1
  else if (12 : Int) < (e.text.size : Int) then 4
  else if (e.gone && !e.text.toList.isEmpty) = true then 3
  else 0

set_option maxHeartbeats 1000000 in
theorem check_any (k v a : Int) (g : Bool) (t : ByteArray) (w : World) (ht : t.size ≤ maxLen) :
    Calls Tryd.prog 36 #[.agg #[.int .i64 k, .int .i64 v, .int .i64 a, .bool g, .string t]] w fun e w' =>
      e = .returned (errV (chk ⟨k, v, a, g, t⟩)) ∧ Below w.heap.size w w' := by
  unfold maxLen at ht
  go_enter Tryd.func36, Tryd.ntmps36
  go_wp2_with (first | (go_at_call 59; refine (key_any _ _).mono ?_; rintro e w' ⟨rfl, rfl⟩) | (go_at_call 60; refine (seq_any _ _).mono ?_; rintro e w' ⟨rfl, rfl⟩))
  all_goals
    go_ret
    refine ⟨?_, (Below.refl _ _).alloc (Nat.le_refl _) _⟩
    simp [chk, errV, *]
    all_goals (simp (disch := omega) only [if_neg])
    all_goals first | rfl | decide
end Go.Proofs.YtgamocljdbffpaaDoor
