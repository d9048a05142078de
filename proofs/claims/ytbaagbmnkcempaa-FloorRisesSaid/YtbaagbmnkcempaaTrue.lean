/-
  CONTRACT of entry.True. CONDITIONS: none.
-/
import Derived.Test.YtbaagbmnkcempaaJoin3
namespace Go.Proofs.Ytbaagbmnkcempaa
open Go.RowKit
open Go.ChangeShapes Go.WideShapes Go.ChangeAt

def trueR (e : E) (n : Int) : Bool × Int := if chk e = 0 then (if seqB n = true then (decide (e.ver ≤ n) && decide (n ≤ e.asof), 0) else (false, 1)) else (false, chk e)

set_option maxHeartbeats 1000000 in
theorem true_any (k v a : Int) (g : Bool) (t : ByteArray) (n : Int) (ht : t.size ≤ maxLen) (w : World) :
    Calls Try.prog 16 #[.agg #[.int .i64 k, .int .i64 v, .int .i64 a, .bool g, .string t], .int .i64 n] w fun e w' =>
      e = .returned (.tuple #[.bool (trueR ⟨k, v, a, g, t⟩ n).1, errV (trueR ⟨k, v, a, g, t⟩ n).2]) ∧ Below w.heap.size w w' := by
  generalize hr : trueR ⟨k, v, a, g, t⟩ n = r
  by_cases h0 : chk ⟨k, v, a, g, t⟩ = 0
  · rw [trueR, if_pos h0] at hr
    have he : errV (chk ⟨k, v, a, g, t⟩) = .nilIface := by rw [h0]; rfl
    clear h0
    rcases hs : seqB n with _ | _
    · rw [if_neg (by simp [hs])] at hr
      subst hr
      go_enter Try.func16, Try.ntmps16
      go_wp2_with (first | (go_at_call 14; refine (check_any _ _ _ _ _ _ (by assumption)).mono ?_; rintro e w1 ⟨rfl, hb1⟩; obtain ⟨hc1, hf1⟩ := bcell hb1; have hz1 := hb1.size; (try simp only [World.size_alloc] at hz1); (try simp only [World.size_setCell] at hz1)) | (go_at_call 18; refine (seq_any _ _).mono ?_; rintro e w' ⟨rfl, rfl⟩))
      go_ret2
      exact ⟨rfl, by (repeat (first | with_reducible exact Below.refl _ _ | with_reducible assumption | (with_reducible refine Below.drew ?_) | (with_reducible refine Below.manyDrew ?_ _) | ((with_reducible refine Below.alloc ?_ ?_ _); rotate_left; (focus (first | omega | (dsimp only; omega) | (simp; done) | (simp; omega)))) | ((with_reducible refine Below.setCell ?_ ?_ _); rotate_left; (focus (first | omega | (dsimp only; omega) | (simp; done) | (simp; omega)))) | ((with_reducible refine Below.step ?_ (by assumption) ?_); rotate_left; (focus (first | omega | (dsimp only; omega) | (simp; done) | (simp; omega))))))⟩
    · rw [if_pos hs] at hr
      subst hr
      go_enter Try.func16, Try.ntmps16
      go_wp2_with (first | (go_at_call 14; refine (check_any _ _ _ _ _ _ (by assumption)).mono ?_; rintro e w1 ⟨rfl, hb1⟩; obtain ⟨hc1, hf1⟩ := bcell hb1; have hz1 := hb1.size; (try simp only [World.size_alloc] at hz1); (try simp only [World.size_setCell] at hz1)) | (go_at_call 18; refine (seq_any _ _).mono ?_; rintro e w' ⟨rfl, rfl⟩))
      all_goals
        go_ret2
        refine ⟨?_, by (repeat (first | with_reducible exact Below.refl _ _ | with_reducible assumption | (with_reducible refine Below.drew ?_) | (with_reducible refine Below.manyDrew ?_ _) | ((with_reducible refine Below.alloc ?_ ?_ _); rotate_left; (focus (first | omega | (dsimp only; omega) | (simp; done) | (simp; omega)))) | ((with_reducible refine Below.setCell ?_ ?_ _); rotate_left; (focus (first | omega | (dsimp only; omega) | (simp; done) | (simp; omega)))) | ((with_reducible refine Below.step ?_ (by assumption) ?_); rotate_left; (focus (first | omega | (dsimp only; omega) | (simp; done) | (simp; omega))))))⟩
        simp [errV, *] <;> omega
  · rw [trueR, if_neg h0] at hr
    have he := errV_ne h0
    subst hr
    clear h0
    go_enter Try.func16, Try.ntmps16
    go_wp2_with (first | (go_at_call 14; refine (check_any _ _ _ _ _ _ (by assumption)).mono ?_; rintro e w1 ⟨rfl, hb1⟩; obtain ⟨hc1, hf1⟩ := bcell hb1; have hz1 := hb1.size; (try simp only [World.size_alloc] at hz1); (try simp only [World.size_setCell] at hz1)) | (go_at_call 18; refine (seq_any _ _).mono ?_; rintro e w' ⟨rfl, rfl⟩))
    go_ret2
    exact ⟨by simp [he], by (repeat (first | with_reducible exact Below.refl _ _ | with_reducible assumption | (with_reducible refine Below.drew ?_) | (with_reducible refine Below.manyDrew ?_ _) | ((with_reducible refine Below.alloc ?_ ?_ _); rotate_left; (focus (first | omega | (dsimp only; omega) | (simp; done) | (simp; omega)))) | ((with_reducible refine Below.setCell ?_ ?_ _); rotate_left; (focus (first | omega | (dsimp only; omega) | (simp; done) | (simp; omega)))) | ((with_reducible refine Below.step ?_ (by assumption) ?_); rotate_left; (focus (first | omega | (dsimp only; omega) | (simp; done) | (simp; omega))))))⟩
end Go.Proofs.Ytbaagbmnkcempaa
