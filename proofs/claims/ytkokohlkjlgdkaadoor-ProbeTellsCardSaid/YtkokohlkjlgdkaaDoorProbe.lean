/-
  CONTRACTS of package probe: check, Turn, at, Target, When. CONDITIONS: none.
-/
import Derived.Test.YtkokohlkjlgdkaaDoorCodecs
namespace Go.Proofs.YtkokohlkjlgdkaaDoor
open Go.RowKit
open Go.ChangeShapes Go.WideShapes Go.ChangeAt

def pchk (me n : Int) : Bool := decide (2 ≤ n) && decide (n ≤ 6) && decide (0 ≤ me) && decide (me < n)
theorem pchk_true {me n : Int} : pchk me n = true ↔ 2 ≤ n ∧ n ≤ 6 ∧ 0 ≤ me ∧ me < n := by simp [pchk, and_assoc]
theorem pchk_false {me n : Int} : pchk me n = false ↔ n < 2 ∨ 6 < n ∨ me < 0 ∨ n ≤ me := by
  rw [← Bool.not_eq_true, pchk_true]; omega
def turnB (t : Int) : Bool := decide (0 ≤ t) && decide (t ≤ 60)
theorem turnB_true {t : Int} : turnB t = true ↔ 0 ≤ t ∧ t ≤ 60 := by simp [turnB]
theorem turnB_false {t : Int} : turnB t = false ↔ t < 0 ∨ 60 < t := by
  rw [← Bool.not_eq_true, turnB_true]; omega
def atI (me n t : Int) : Int := (me + 1 + t % (n - 1)) % n
def targetR (me n t : Int) : Int × Int := if pchk me n = true then (if turnB t = true then (atI me n t, 0) else (0, 1)) else (0, 1)
def whenR (me n k : Int) : Int × Int := if pchk me n = true then (if 0 ≤ k ∧ k < n then (if k = me then (0, 5) else ((k - me - 1 + n) % n, 0)) else (0, 1)) else (0, 1)

theorem pcheck_any (me n : Int) (w : World) : Calls Tryd.prog 41 #[.int .i64 me, .int .i64 n] w fun e w' => e = .returned (.bool (pchk me n)) ∧ w = w' := by
  go_enter Tryd.func41, Tryd.ntmps41
  go_wp2
  all_goals
    go_ret
    refine ⟨ret_b ?_, rfl⟩
    first | (simp [pchk, *]; done) | (simp [pchk]; omega)
theorem turn_any (t : Int) (w : World) : Calls Tryd.prog 42 #[.int .i64 t] w fun e w' => e = .returned (.bool (turnB t)) ∧ w = w' := by
  go_enter Tryd.func42, Tryd.ntmps42
  go_wp2
  all_goals
    go_ret
    refine ⟨ret_b ?_, rfl⟩
    first | (simp [turnB, *]; done) | (simp [turnB]; omega)
theorem at_any (me n t : Int) (w : World) (h1 : 2 ≤ n) (h2 : n ≤ 6) (h3 : 0 ≤ me) (h4 : me < n) (h5 : 0 ≤ t) (h6 : t ≤ 120) :
    Calls Tryd.prog 43 #[.int .i64 me, .int .i64 n, .int .i64 t] w fun e w' => e = .returned (.int .i64 (atI me n t)) ∧ w = w' := by
  have hm0 : 0 ≤ t % (n - 1) := Int.emod_nonneg _ (by omega)
  have hm1 : t % (n - 1) < n - 1 := Int.emod_lt_of_pos _ (by omega)
  have hn0 : ¬ n - 1 = 0 := by omega
  have hn1 : ¬ n = 0 := by omega
  go_enter Tryd.func43, Tryd.ntmps43
  go_wp2
  go_ret
  exact ⟨rfl, rfl⟩

set_option maxHeartbeats 400000 in
theorem target_any (me n t : Int) (w : World) :
    Calls Tryd.prog 10 #[.int .i64 me, .int .i64 n, .int .i64 t] w fun e w' => e = .returned (.tuple #[.int .i64 (targetR me n t).1, errV (targetR me n t).2]) ∧ w = w' := by
  rcases hp : pchk me n with _ | _
  · rw [show targetR me n t = (0, 1) by simp [targetR, hp]]
    have Hp := hid hp
    clear hp
    go_enter Tryd.func10, Tryd.ntmps10
    go_wp2_with ((go_at_call 41; refine (pcheck_any _ _ _).mono ?_; rintro e w' ⟨rfl, rfl⟩); rw [Hp.out])
    go_ret2
    exact ⟨rfl, rfl⟩
  · rcases ht : turnB t with _ | _
    · rw [show targetR me n t = (0, 1) by simp [targetR, hp, ht]]
      have Hp := hid hp
      have Ht := hid ht
      clear hp ht
      go_enter Tryd.func10, Tryd.ntmps10
      go_wp2_with (first | ((go_at_call 41; refine (pcheck_any _ _ _).mono ?_; rintro e w' ⟨rfl, rfl⟩); rw [Hp.out]) | ((go_at_call 42; refine (turn_any _ _).mono ?_; rintro e w' ⟨rfl, rfl⟩); rw [Ht.out]))
      go_ret2
      exact ⟨rfl, rfl⟩
    · rw [show targetR me n t = (atI me n t, 0) by simp [targetR, hp, ht]]
      obtain ⟨h1, h2, h3, h4⟩ := pchk_true.1 hp
      obtain ⟨h5, h6⟩ := turnB_true.1 ht
      have Hp := hid hp
      have Ht := hid ht
      clear hp ht
      go_enter Tryd.func10, Tryd.ntmps10
      go_wp2_with (first | ((go_at_call 41; refine (pcheck_any _ _ _).mono ?_; rintro e w' ⟨rfl, rfl⟩); rw [Hp.out]) | ((go_at_call 42; refine (turn_any _ _).mono ?_; rintro e w' ⟨rfl, rfl⟩); rw [Ht.out]) | ((go_at_call 43; refine (at_any _ _ _ _ h1 h2 h3 h4 h5 (by omega)).mono ?_; rintro e w' ⟨rfl, rfl⟩)))
      go_ret2
      exact ⟨rfl, rfl⟩

set_option maxHeartbeats 400000 in
theorem when_any (me n k : Int) (w : World) :
    Calls Tryd.prog 11 #[.int .i64 me, .int .i64 n, .int .i64 k] w fun e w' => e = .returned (.tuple #[.int .i64 (whenR me n k).1, errV (whenR me n k).2]) ∧ w = w' := by
  rcases hp : pchk me n with _ | _
  · rw [show whenR me n k = (0, 1) by simp [whenR, hp]]
    have Hp := hid hp
    clear hp
    go_enter Tryd.func11, Tryd.ntmps11
    go_wp2_with ((go_at_call 41; refine (pcheck_any _ _ _).mono ?_; rintro e w' ⟨rfl, rfl⟩); rw [Hp.out])
    go_ret2
    exact ⟨rfl, rfl⟩
  · obtain ⟨h1, h2, h3, h4⟩ := pchk_true.1 hp
    by_cases hk : 0 ≤ k ∧ k < n
    · obtain ⟨hk0, hk1⟩ := hk
      by_cases he : k = me
      · rw [show whenR me n k = (0, 5) by simp [whenR, hp, he, h3, h4]]
        subst he
        have Hp := hid hp
        clear hp
        go_enter Tryd.func11, Tryd.ntmps11
        go_wp2_with ((go_at_call 41; refine (pcheck_any _ _ _).mono ?_; rintro e w' ⟨rfl, rfl⟩); rw [Hp.out])
        go_ret2
        exact ⟨rfl, rfl⟩
      · rw [show whenR me n k = ((k - me - 1 + n) % n, 0) by simp [whenR, hp, he, hk0, hk1]]
        have Hp := hid hp
        have hn1 : ¬ n = 0 := by omega
        clear hp
        go_enter Tryd.func11, Tryd.ntmps11
        go_wp2_with ((go_at_call 41; refine (pcheck_any _ _ _).mono ?_; rintro e w' ⟨rfl, rfl⟩); rw [Hp.out])
        go_ret2
        exact ⟨rfl, rfl⟩
    · rw [show whenR me n k = (0, 1) by simp only [whenR, hp, if_pos, if_neg hk]]
      have Hp := hid hp
      clear hp
      by_cases hk0 : 0 ≤ k
      · have hk1 : ¬ k < n := by omega
        clear hk
        go_enter Tryd.func11, Tryd.ntmps11
        go_wp2_with ((go_at_call 41; refine (pcheck_any _ _ _).mono ?_; rintro e w' ⟨rfl, rfl⟩); rw [Hp.out])
        go_ret2
        exact ⟨rfl, rfl⟩
      · clear hk
        go_enter Tryd.func11, Tryd.ntmps11
        go_wp2_with ((go_at_call 41; refine (pcheck_any _ _ _).mono ?_; rintro e w' ⟨rfl, rfl⟩); rw [Hp.out])
        go_ret2
        exact ⟨rfl, rfl⟩
end Go.Proofs.YtkokohlkjlgdkaaDoor
