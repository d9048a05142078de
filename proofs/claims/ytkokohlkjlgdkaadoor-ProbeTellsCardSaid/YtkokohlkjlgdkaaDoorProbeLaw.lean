/-
  PLAIN LAWS of package probe's turns; the contract of mereref2.Target. CONDITIONS: none.
-/
import Derived.Test.YtkokohlkjlgdkaaDoorProbe
namespace Go.Proofs.YtkokohlkjlgdkaaDoor
open Go.RowKit
open Go.ChangeShapes Go.WideShapes Go.ChangeAt

theorem five {n : Int} (h1 : 2 ≤ n) (h2 : n ≤ 6) : n = 2 ∨ n = 3 ∨ n = 4 ∨ n = 5 ∨ n = 6 := by omega
theorem atI_in {me n t : Int} (h1 : 2 ≤ n) (h2 : n ≤ 6) : 0 ≤ atI me n t ∧ atI me n t < n := by
  unfold atI
  exact ⟨Int.emod_nonneg _ (by omega), Int.emod_lt_of_pos _ (by omega)⟩
theorem atI_ne {me n t : Int} (h1 : 2 ≤ n) (h2 : n ≤ 6) (_h3 : 0 ≤ me) (_h4 : me < n) : atI me n t ≠ me := by
  unfold atI
  rcases five h1 h2 with rfl | rfl | rfl | rfl | rfl
  all_goals
    simp only [Int.reduceSub]
    omega
theorem atI_when {me n t : Int} (h1 : 2 ≤ n) (h2 : n ≤ 6) (_h3 : 0 ≤ me) (_h4 : me < n) : (atI me n t - me - 1 + n) % n = t % (n - 1) := by
  unfold atI
  rcases five h1 h2 with rfl | rfl | rfl | rfl | rfl
  all_goals
    simp only [Int.reduceSub]
    omega
theorem atI_apart {me n t : Int} {i j : Int} (h1 : 2 ≤ n) (h2 : n ≤ 6) (hi : 0 ≤ i) (hij : i < j) (hj : j < n - 1) : atI me n (t + i) ≠ atI me n (t + j) := by
  unfold atI
  rcases five h1 h2 with rfl | rfl | rfl | rfl | rfl
  all_goals
    simp only [Int.reduceSub] at *
    omega

/-- one turn more, as the reference goes -/
def stepT (me n a : Int) : Int :=
  if (if a + 1 = n then 0 else a + 1) = me then (if (if a + 1 = n then 0 else a + 1) + 1 = n then 0 else (if a + 1 = n then 0 else a + 1) + 1) else (if a + 1 = n then 0 else a + 1)
def tgtS (me n : Int) : Nat → Int
  | 0 => me
  | k + 1 => stepT me n (tgtS me n k)
theorem tgtS_at {me n : Int} (h1 : 2 ≤ n) (h2 : n ≤ 6) (h3 : 0 ≤ me) (h4 : me < n) : ∀ k : Nat, tgtS me n (k + 1) = atI me n k
  | 0 => by
    show stepT me n me = _
    unfold stepT atI
    rcases five h1 h2 with rfl | rfl | rfl | rfl | rfl
    all_goals
      simp only [Int.reduceSub]
      (repeat' split) <;> omega
  | k + 1 => by
    rw [tgtS, tgtS_at h1 h2 h3 h4 k]
    unfold stepT atI
    rcases five h1 h2 with rfl | rfl | rfl | rfl | rfl
    all_goals
      simp only [Int.reduceSub]
      (repeat' split) <;> omega
theorem tgtS_in {me n : Int} (h1 : 2 ≤ n) (h2 : n ≤ 6) (h3 : 0 ≤ me) (h4 : me < n) : ∀ k : Nat, 0 ≤ tgtS me n k ∧ tgtS me n k < n
  | 0 => ⟨h3, h4⟩
  | k + 1 => by rw [tgtS_at h1 h2 h3 h4]; exact atI_in h1 h2

set_option maxHeartbeats 2000000 in
theorem rtarget_any (me n t : Int) (w : World) (h1 : 2 ≤ n) (h2 : n ≤ 6) (h3 : 0 ≤ me) (h4 : me < n) (h5 : 0 ≤ t) (h6 : t ≤ 120) :
    Calls Tryd.prog 13 #[.int .i64 me, .int .i64 n, .int .i64 t] w fun e w' => e = .returned (.int .i64 (atI me n t)) ∧ w = w' := by
  obtain ⟨m, rfl⟩ := Int.eq_ofNat_of_zero_le h5
  rw [← tgtS_at h1 h2 h3 h4]
  generalize hr : tgtS me n (m + 1) = r
  have Hr := hid hr
  have Hin := hid (tgtS_in h1 h2 h3 h4)
  clear hr
  go_enter Tryd.func13, Tryd.ntmps13
  go_wp2
  go_loop [7, 8] (fun a i => ∃ k : Nat, k ≤ m + 1 ∧ i = .int .i64 k ∧ a = .int .i64 (tgtS me n k)) (fun _ i => m + 1 - (intOf i).toNat)
  case atStart => exact ⟨0, Nat.zero_le _, rfl, rfl⟩
  case round =>
    obtain ⟨k, hk, rfl, rfl⟩ := hrel
    obtain ⟨ha0, ha1⟩ := Hin.out k
    have HS : Hid (tgtS me n (k + 1) = stepT me n (tgtS me n k)) := hid rfl
    by_cases hlt : k ≤ m
    · generalize hA : tgtS me n k = a at *
      clear hA
      go_wp2
      all_goals
        go_round
        case rel =>
          refine ⟨k + 1, by omega, by go_num, ?_⟩
          rw [HS.out]
          congr 1
          unfold stepT
          simp only [beq_iff_eq, beq_eq_false_iff_ne, ne_eq] at *
          (repeat' split) <;> omega
        case measure => simp [intOf]; omega
    · obtain rfl : k = m + 1 := by omega
      rw [Hr.out]
      clear HS
      go_wp2
      go_ret
      exact ⟨rfl, rfl⟩
end Go.Proofs.YtkokohlkjlgdkaaDoor
