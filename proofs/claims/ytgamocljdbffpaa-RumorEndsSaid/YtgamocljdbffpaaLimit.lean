/-
  CONTRACT of rumor.Limit. CONDITIONS: none.
-/
import Derived.Test.YtgamocljdbffpaaULaw
namespace Go.Proofs.Ytgamocljdbffpaa
open Go.RowKit
open Go.ChangeShapes Go.WideShapes Go.ChangeAt

/-- how often one is told, by how many there are -/
def limN (n : Int) : Int := if n ≤ 1 then 0 else if n ≤ 2 then 3 else if n ≤ 4 then 6 else 9
def limR (n : Int) : Int × Int := if 1 ≤ n ∧ n ≤ 6 then (limN n, 0) else (0, 1)
set_option maxHeartbeats 1000000 in
theorem limit_no (n : Int) (w : World) (h : ¬ (1 ≤ n ∧ n ≤ 6)) : Calls Try.prog 8 #[.int .i64 n] w fun e w' => e = .returned (.tuple #[.int .i64 0, errV 1]) ∧ w = w' := by
  rw [errV_ne (show (1 : Int) ≠ 0 by decide)]
  rcases (show n < 1 ∨ (1 ≤ n ∧ 6 < n) by omega) with h | ⟨h, h2⟩
  all_goals
    go_enter Try.func8, Try.ntmps8
    go_wp2
    go_ret2
    exact ⟨rfl, rfl⟩
set_option maxHeartbeats 4000000 in
theorem limit_yes (n : Int) (w : World) (h1 : 1 ≤ n) (h6 : n ≤ 6) : Calls Try.prog 8 #[.int .i64 n] w fun e w' => e = .returned (.tuple #[.int .i64 (limN n), errV 0]) ∧ w = w' := by
  rw [errV_zero]
  rcases (show n = 1 ∨ n = 2 ∨ n = 3 ∨ n = 4 ∨ n = 5 ∨ n = 6 by omega) with rfl | rfl | rfl | rfl | rfl | rfl
  all_goals
    clear h1 h6
    go_enter Try.func8, Try.ntmps8
    go_wp2
    refine wp_loop_rounds 5 ?_
    repeat (first | (rw [rounds_succ]; go_wp2; done) | (rw [rounds_succ]; go_wp2))
    go_ret2
    exact ⟨rfl, rfl⟩
theorem limit_any (n : Int) (w : World) : Calls Try.prog 8 #[.int .i64 n] w fun e w' => e = .returned (.tuple #[.int .i64 (limR n).1, errV (limR n).2]) ∧ w = w' := by
  unfold limR
  by_cases h : 1 ≤ n ∧ n ≤ 6
  · rw [if_pos h]; exact limit_yes n w h.1 h.2
  · rw [if_neg h]; exact limit_no n w h
end Go.Proofs.Ytgamocljdbffpaa
