/-
  CONTRACTS: ring.Node, view.Right, cmp.Compare, cmp.Or, view.Above, view.Newer. CONDITIONS: none.
-/
import Derived.Test.YtgamocljdbffpaaVLaw
import Derived.Deep.RegionHeld3
namespace Go.Proofs.Ytgamocljdbffpaa
open Go.RowKit
open Go.ChangeShapes Go.WideShapes Go.ChangeAt

theorem node_any (n : Int) (w : World) : Calls Try.prog 21 #[.int .i64 n] w fun e w' => e = .returned (.bool (nodeB n)) ∧ w = w' := by
  rcases (show n < 0 ∨ (0 ≤ n ∧ 6 ≤ n) ∨ (0 ≤ n ∧ n < 6) by omega) with h | ⟨h, h2⟩ | ⟨h, h2⟩
  all_goals
    go_enter Try.func21, Try.ntmps21
    go_wp2
    go_ret
    refine ⟨ret_b ?_, rfl⟩
    symm
    rw [Bool.eq_iff_iff, nodeB_true]
    simp
    try omega

set_option maxHeartbeats 1000000 in
theorem right_any (x0 x1 x2 : Int) (w : World) : Calls Try.prog 10 #[.agg #[.int .i64 x0, .int .i64 x1, .int .i64 x2]] w fun e w' => e = .returned (.bool (rightB ⟨x0, x1, x2⟩)) ∧ Below w.heap.size w w' := by
  rcases (show nodeB x0 = false ∨ nodeB x0 = true by cases nodeB x0 <;> simp) with hn | hn
  · have Hn := hid hn
    have HR := hid (show rightB ⟨x0, x1, x2⟩ = false by simp [rightB, hn])
    clear hn
    go_enter Try.func10, Try.ntmps10
    go_wp2_with ((go_at_call 21; refine (node_any _ _).mono ?_; rintro e w' ⟨rfl, rfl⟩); rw [Hn.out])
    go_ret
    exact ⟨ret_b HR.out.symm, by (repeat (first | with_reducible exact Below.refl _ _ | with_reducible assumption | (with_reducible refine Below.drew ?_) | (with_reducible refine Below.manyDrew ?_ _) | ((with_reducible refine Below.alloc ?_ ?_ _); rotate_left; (focus (first | omega | (dsimp only; omega) | (simp; done) | (simp; omega)))) | ((with_reducible refine Below.setCell ?_ ?_ _); rotate_left; (focus (first | omega | (dsimp only; omega) | (simp; done) | (simp; omega)))) | ((with_reducible refine Below.step ?_ (by assumption) ?_); rotate_left; (focus (first | omega | (dsimp only; omega) | (simp; done) | (simp; omega))))))⟩
  · have Hn := hid hn
    rcases (show x1 < 0 ∨ (0 ≤ x1 ∧ 100 < x1) ∨ (0 ≤ x1 ∧ x1 ≤ 100 ∧ x2 < 0) ∨ (0 ≤ x1 ∧ x1 ≤ 100 ∧ 0 ≤ x2 ∧ 2 < x2) ∨ (0 ≤ x1 ∧ x1 ≤ 100 ∧ 0 ≤ x2 ∧ x2 ≤ 2) by omega) with h | ⟨h, h2⟩ | ⟨h, h2, h3⟩ | ⟨h, h2, h3, h4⟩ | ⟨h, h2, h3, h4⟩
    all_goals
      have HR := hid (show rightB ⟨x0, x1, x2⟩ = (decide (0 ≤ x1) && decide (x1 ≤ 100) && decide (0 ≤ x2) && decide (x2 ≤ 2)) by simp [rightB, hn])
      clear hn
      go_enter Try.func10, Try.ntmps10
      go_wp2_with ((go_at_call 21; refine (node_any _ _).mono ?_; rintro e w' ⟨rfl, rfl⟩); rw [Hn.out])
      go_ret
      refine ⟨ret_b ?_, by (repeat (first | with_reducible exact Below.refl _ _ | with_reducible assumption | (with_reducible refine Below.drew ?_) | (with_reducible refine Below.manyDrew ?_ _) | ((with_reducible refine Below.alloc ?_ ?_ _); rotate_left; (focus (first | omega | (dsimp only; omega) | (simp; done) | (simp; omega)))) | ((with_reducible refine Below.setCell ?_ ?_ _); rotate_left; (focus (first | omega | (dsimp only; omega) | (simp; done) | (simp; omega)))) | ((with_reducible refine Below.step ?_ (by assumption) ?_); rotate_left; (focus (first | omega | (dsimp only; omega) | (simp; done) | (simp; omega))))))⟩
      rw [HR.out]
      first
        | (simp; done)
        | (simp; omega)
        | (rw [Bool.eq_iff_iff]; simp; omega)

theorem isNaN_any (a : Int) (w : World) : Calls Try.prog 26 #[.int .i64 a] w fun e w' => e = .returned (.bool false) ∧ w = w' := by
  go_enter Try.func26, Try.ntmps26
  go_wp2
  go_ret
  exact ⟨ret_b (by simp), rfl⟩
def cmpI (a b : Int) : Int := if a < b then -1 else if b < a then 1 else 0
theorem compare_any (a b : Int) (w : World) : Calls Try.prog 18 #[.int .i64 a, .int .i64 b] w fun e w' => e = .returned (.int .i64 (cmpI a b)) ∧ w = w' := by
  unfold cmpI
  rcases (show a < b ∨ (¬ a < b ∧ b < a) ∨ (¬ a < b ∧ ¬ b < a) by omega) with h | ⟨h, h2⟩ | ⟨h, h2⟩
  · rw [if_pos h]
    go_enter Try.func18, Try.ntmps18
    go_wp2_with (go_at_call 26; refine (isNaN_any _ _).mono ?_; rintro e w' ⟨rfl, rfl⟩)
    go_ret
    exact ⟨rfl, rfl⟩
  · rw [if_neg h, if_pos h2]
    go_enter Try.func18, Try.ntmps18
    go_wp2_with (go_at_call 26; refine (isNaN_any _ _).mono ?_; rintro e w' ⟨rfl, rfl⟩)
    go_ret
    exact ⟨rfl, rfl⟩
  · rw [if_neg h, if_neg h2]
    go_enter Try.func18, Try.ntmps18
    go_wp2_with (go_at_call 26; refine (isNaN_any _ _).mono ?_; rintro e w' ⟨rfl, rfl⟩)
    go_ret
    exact ⟨rfl, rfl⟩
def orI (x y : Int) : Int := if x = 0 then y else x
set_option maxHeartbeats 1000000 in
theorem or_any (g : Nat) (x y : Int) (w : World) (h0 : w.cell? ⟨g, 0, none⟩ = some (.int .i64 x)) (h1 : w.cell? ⟨g, 1, none⟩ = some (.int .i64 y)) :
    Calls Try.prog 24 #[.slice (some ⟨g, 0, none⟩) 2 2] w fun e w' => e = .returned (.int .i64 (orI x y)) ∧ w = w' := by
  unfold orI
  by_cases hx : x = 0
  · rw [if_pos hx]
    subst hx
    by_cases hy : y = 0
    · subst hy
      go_enter Try.func24, Try.ntmps24
      go_wp2
      refine wp_loop_rounds 3 ?_
      rw [rounds_succ]
      go_wp2
      rw [rounds_succ]
      go_wp2
      rw [rounds_succ]
      go_wp2
      go_ret
      exact ⟨rfl, rfl⟩
    · have hyb : (y == 0) = false := by rw [beq_eq_false_iff_ne]; exact hy
      clear hy
      go_enter Try.func24, Try.ntmps24
      go_wp2
      refine wp_loop_rounds 3 ?_
      rw [rounds_succ]
      go_wp2
      rw [rounds_succ]
      go_wp2
      go_ret
      exact ⟨rfl, rfl⟩
  · rw [if_neg hx]
    have hxb : (x == 0) = false := by rw [beq_eq_false_iff_ne]; exact hx
    clear hx
    go_enter Try.func24, Try.ntmps24
    go_wp2
    refine wp_loop_rounds 3 ?_
    rw [rounds_succ]
    go_wp2
    go_ret
    exact ⟨rfl, rfl⟩
theorem above_or (a b : M) : aboveB a b = decide (0 < orI (cmpI a.life b.life) (cmpI a.state b.state)) := by
  rw [Bool.eq_iff_iff, aboveB_true, decide_eq_true_eq]
  unfold orI cmpI
  repeat' split
  all_goals omega

set_option maxHeartbeats 4000000 in
theorem above_any (x0 x1 x2 y0 y1 y2 : Int) (w : World) : Calls Try.prog 15 #[.agg #[.int .i64 x0, .int .i64 x1, .int .i64 x2], .agg #[.int .i64 y0, .int .i64 y1, .int .i64 y2]] w fun e w' => e = .returned (.bool (aboveB ⟨x0, x1, x2⟩ ⟨y0, y1, y2⟩)) ∧ Below w.heap.size w w' := by
  rw [above_or]
  have HC1 := hid (compare_any x1 y1)
  have HC2 := hid (compare_any x2 y2)
  generalize cmpI x1 y1 = c1 at *
  generalize cmpI x2 y2 = c2 at *
  go_enter Try.func15, Try.ntmps15
  go_wp2_with fail
  go_region_law (first | (go_simp; go_at_call 18; first | (with_reducible refine (HC1.out _).mono ?_; rintro e w' ⟨rfl, rfl⟩) | (with_reducible refine (HC2.out _).mono ?_; rintro e w' ⟨rfl, rfl⟩)) | (go_simp; go_at_call 24; refine (or_any _ c1 c2 _ (by simp [go_sem]) (by simp [go_sem])).mono ?_; rintro e w' ⟨rfl, rfl⟩))
  all_goals
    go_wp2_with fail
    go_ret
    exact ⟨rfl, by (repeat (first | with_reducible exact Below.refl _ _ | with_reducible assumption | (with_reducible refine Below.drew ?_) | (with_reducible refine Below.manyDrew ?_ _) | ((with_reducible refine Below.alloc ?_ ?_ _); rotate_left; (focus (first | omega | (dsimp only; omega) | (simp; done) | (simp; omega)))) | ((with_reducible refine Below.setCell ?_ ?_ _); rotate_left; (focus (first | omega | (dsimp only; omega) | (simp; done) | (simp; omega)))) | ((with_reducible refine Below.step ?_ (by assumption) ?_); rotate_left; (focus (first | omega | (dsimp only; omega) | (simp; done) | (simp; omega))))))⟩
end Go.Proofs.Ytgamocljdbffpaa
