/-
  CONTRACT of repair.Meet. CONDITIONS: none.
-/
import Derived.Test.YtmgiecoeeidgoaaGreatDoorEntry
namespace Go.Proofs.YtmgiecoeeidgoaaGreatDoor
open Go.RowKit
open Go.ChangeShapes Go.WideShapes Go.ChangeAt

def meetE (n r v : Int) : Int := if n < 1 ∨ 6 < n ∨ r < 0 ∨ n < r ∨ v < 0 ∨ n < v then 1 else 0
theorem meet_ways (n r m : Int) (w : World) :
    Calls Tryz.prog 16 #[.int .i64 n, .int .i64 r, .int .i64 m] w fun e w' => e = .returned (.tuple #[.bool (decide (meetE n r m = 0 ∧ n < r + m)), errV (meetE n r m)]) ∧ Below w.heap.size w w' := by
  unfold meetE
  by_cases h : n < 1 ∨ 6 < n ∨ r < 0 ∨ n < r ∨ m < 0 ∨ n < m
  · rw [if_pos h, errV_ne (by decide), decide_eq_false (by omega)]
    rcases (show n < 1 ∨ (¬ n < 1 ∧ 6 < n) ∨ (¬ n < 1 ∧ ¬ 6 < n ∧ r < 0) ∨ (¬ n < 1 ∧ ¬ 6 < n ∧ ¬ r < 0 ∧ n < r) ∨ (¬ n < 1 ∧ ¬ 6 < n ∧ ¬ r < 0 ∧ ¬ n < r ∧ m < 0) ∨ (¬ n < 1 ∧ ¬ 6 < n ∧ ¬ r < 0 ∧ ¬ n < r ∧ ¬ m < 0 ∧ n < m) by omega) with h | h | h | h | h | h
    all_goals
      go_enter Tryz.func16, Tryz.ntmps16
      go_wp2_with fail
      go_ret2
      exact ⟨rfl, Below.refl _ _⟩
  · rw [if_neg h, errV_zero]
    have h1 : ¬ n < 1 ∧ ¬ 6 < n ∧ ¬ r < 0 ∧ ¬ n < r ∧ ¬ m < 0 ∧ ¬ n < m := by omega
    obtain ⟨h1, h2, h3, h4, h5, h6⟩ := h1
    by_cases h7 : n < r + m
    · rw [decide_eq_true (by simp [h7])]
      clear h
      go_enter Tryz.func16, Tryz.ntmps16
      go_wp2_with fail
      go_ret2
      exact ⟨rfl, Below.refl _ _⟩
    · rw [decide_eq_false (by simp [h7])]
      clear h
      go_enter Tryz.func16, Tryz.ntmps16
      go_wp2_with fail
      go_ret2
      exact ⟨rfl, Below.refl _ _⟩
theorem trodAll_fiveM {H : Type} {enc : TypeId × Value → H} {P : Program} {w : World} {base : Nat} {sp : Nat → Bool} {held : Bool} {t t' t'' t3 t4 : TypeId} {args : Array Value} {ds : List (DataW H)} {ps : List MemPlace} (h : DataW.TrodAll enc P w base sp held [t, t', t'', t3, t4] args.toList ds ps) :
    ∃ v v' v'' v3 v4 d d' d'' d3 d4 p p' p'' p3 p4, args = #[v, v', v'', v3, v4] ∧ ds = [d, d', d'', d3, d4] ∧ ps = p ++ (p' ++ (p'' ++ (p3 ++ (p4 ++ [])))) ∧ DataW.Trod enc P w base sp held t v d p ∧ DataW.Trod enc P w base sp held t' v' d' p' ∧ DataW.Trod enc P w base sp held t'' v'' d'' p'' ∧ DataW.Trod enc P w base sp held t3 v3 d3 p3 ∧ DataW.Trod enc P w base sp held t4 v4 d4 p4 := by
  obtain ⟨v, vs, d, ds', p, q, e1, rfl, rfl, h1, h⟩ := trodAll_cons h
  obtain ⟨v', vs', d', ds'', p', q', rfl, rfl, rfl, h2, h⟩ := trodAll_cons h
  obtain ⟨v'', vs'', d'', ds3, p'', q'', rfl, rfl, rfl, h3, h⟩ := trodAll_cons h
  obtain ⟨v3, vs3, d3, ds4, p3, q3, rfl, rfl, rfl, h4, h⟩ := trodAll_cons h
  obtain ⟨v4, vs4, d4, ds5, p4, q4, rfl, rfl, rfl, h5, h⟩ := trodAll_cons h
  obtain ⟨rfl, rfl, rfl⟩ := trodAll_nil h
  refine ⟨v, v', v'', v3, v4, d, d', d'', d3, d4, p, p', p'', p3, p4, ?_, rfl, rfl, h1, h2, h3, h4, h5⟩
  exact Array.toList_inj.1 (by simpa using e1)
end Go.Proofs.YtmgiecoeeidgoaaGreatDoor
