/-
  CONTRACTS of the reference's Nodes and Ring. CONDITIONS: none.
-/
import Derived.Test.YtepddjfbkjplfaaGreatDoorRtLaw
import Derived.BigQuiet
namespace Go.Proofs.YtepddjfbkjplfaaGreatDoor
open Go.RowKit
open Go.ChangeShapes Go.WideShapes Go.ChangeAt

theorem in_takeR (s : SlV Int) (k : Nat) (hk : k ≤ s.xs.length) (n : Int) (w : World) (hs : IntsAt w s) :
    Calls Tryz.prog 15 #[.slice s.A k s.c, .int .i64 n] w fun e w' => e = .returned (.bool (inL n (s.xs.take k))) ∧ w' = w := by
  have h := in_any ⟨s.A, s.c, s.xs.take k⟩ n w (hs.preR k hk)
  rw [List.length_take, Nat.min_eq_left hk] at h
  exact h.mono fun _ _ ⟨a, b⟩ => ⟨a, b.symm⟩
set_option maxHeartbeats 4000000 in
theorem nodesR_any (s : SlV Int) (w : World) (hs : IntsAt w s) (hok : s.ok) :
    Calls Tryz.prog 4 #[.slice s.A s.xs.length s.c] w fun e w' => e = .returned (.int .i64 (rnodesE s.xs)) ∧ Below w.heap.size w w' := by
  have hkl := hs.len
  obtain ⟨hkc, hkm⟩ := hok
  unfold maxLen at hkl hkm
  by_cases h0 : s.xs.length = 0
  · rw [rnodesE, if_pos h0]
    rw [h0]
    go_enter Tryz.func4, Tryz.ntmps4
    go_wp2_with fail
    go_ret
    exact ⟨rfl, Below.refl _ _⟩
  have hb0 : ((s.xs.length : Int) == 0) = false := by rw [beq_eq_false_iff_ne]; omega
  by_cases h6 : 6 < s.xs.length
  · rw [rnodesE, if_neg h0, if_pos h6]
    have h6' : (6 : Int) < (s.xs.length : Int) := by omega
    clear h0
    go_enter Tryz.func4, Tryz.ntmps4
    go_wp2_with fail
    go_ret
    exact ⟨rfl, Below.refl _ _⟩
  have h6' : ¬ (6 : Int) < (s.xs.length : Int) := by omega
  rw [rnodesE, if_neg h0, if_neg h6]
  generalize hR : rnodesF [] s.xs = R
  have HR := hid hR
  have HK := hid (fun W (hW : Below w.heap.size w W) => hs.stays0 hW)
  clear hs hR h0 h6
  go_enter Tryz.func4, Tryz.ntmps4
  go_wp2_with fail
  go_loopw [3] (fun i wr => ∃ j : Nat, j ≤ s.xs.length ∧ i = .int .i64 j ∧ rnodesF (s.xs.take j) (s.xs.drop j) = R ∧ Below w.heap.size w wr) (fun i _ => s.xs.length - (intOf i).toNat)
  case atStart => exact ⟨0, Nat.zero_le _, rfl, HR.out, Below.refl _ _⟩
  case round =>
    obtain ⟨j, hj, rfl, hkr, hbr⟩ := hrel
    obtain ⟨wj, rfl⟩ : ∃ wj : World, wj = wr := ⟨_, rfl⟩
    have Hbr := hid hbr
    by_cases hlt : j < s.xs.length
    · obtain ⟨b, off, hA, hb, hcs⟩ := (HK.out wj hbr).row (by omega)
      have hcell := hcs j hlt
      have htk := take_snocD 0 hlt
      have hd := drop_consD 0 hlt
      have HCo := hid (in_takeR s j hj (s.xs.getD j 0) (World.drewN wj 9) ((HK.out wj hbr).drewN _))
      have HIn := hid (fun n => in_takeR s j hj (s.xs.getD j 0) (World.drewN wj n) ((HK.out wj hbr).drewN _))
      rw [hd, rnodesF] at hkr
      rw [hA] at HIn
      generalize s.xs.getD j 0 = k at *
      rw [hA]
      have Hkr := hid hkr
      have Htk := hid htk
      have hjl : (j : Int) < (s.xs.length : Int) := by omega
      have hjl' : (j : Int) ≤ (s.xs.length : Int) := by omega
      have hjc : (j : Int) ≤ (s.c : Int) := by omega
      have hjc' : j ≤ s.c := by omega
      clear hA hcs hd hkr htk HCo hbr
      rcases (show k < 0 ∨ (¬ k < 0 ∧ 5 < k) ∨ (¬ k < 0 ∧ ¬ 5 < k) by omega) with h | ⟨h, h2⟩ | ⟨h, h2⟩
      · have HKr := hid (show (1 : Int) = R by rw [← Hkr.out, if_neg (by rw [nodeB_false.2 (.inl h)]; decide)])
        clear hkc hkm
        go_wp2_with fail
        go_quiet ((go_at_call 15; exact Calls.quiet_of_same (HIn.out _)))
        go_wp2_with fail
        go_ret
        exact ⟨by rw [← HKr.out]; rfl, Below.manyDrew Hbr.out _⟩
      · have HKr := hid (show (1 : Int) = R by rw [← Hkr.out, if_neg (by rw [nodeB_false.2 (.inr (by omega))]; decide)])
        clear hkc hkm
        go_wp2_with fail
        go_quiet ((go_at_call 15; exact Calls.quiet_of_same (HIn.out _)))
        go_wp2_with fail
        go_ret
        exact ⟨by rw [← HKr.out]; rfl, Below.manyDrew Hbr.out _⟩
      · have hk := nodeB_true.2 (show 0 ≤ k ∧ k < 6 by omega)
        rcases hin : inL k (s.xs.take j) with _ | _
        · rw [hin] at HIn
          have HKr := hid (show rnodesF (s.xs.take (j + 1)) (s.xs.drop (j + 1)) = R by rw [Htk.out, ← Hkr.out, if_pos hk, if_neg (by rw [hin]; decide)])
          clear hk hin hkc hkm
          go_wp2_with fail
          go_quiet ((go_at_call 15; exact Calls.quiet_of_same (HIn.out _)))
          go_wp2_with fail
          go_roundw
          case rel => exact ⟨j + 1, by omega, by go_num, HKr.out, Below.manyDrew Hbr.out _⟩
          case measure => simp [intOf]; omega
        · rw [hin] at HIn
          have HKr := hid (show (7 : Int) = R by rw [← Hkr.out, if_pos hk, if_pos hin])
          clear hk hin hkc hkm
          go_wp2_with fail
          go_quiet ((go_at_call 15; exact Calls.quiet_of_same (HIn.out _)))
          go_wp2_with fail
          go_ret
          exact ⟨by rw [← HKr.out]; rfl, Below.manyDrew Hbr.out _⟩
    · obtain rfl : j = s.xs.length := by omega
      have HKr := hid (show (0 : Int) = R by rw [← hkr, List.drop_length]; rfl)
      clear hkr hbr
      go_wp2_with fail
      go_ret
      exact ⟨by rw [← HKr.out]; rfl, Hbr.out⟩
end Go.Proofs.YtepddjfbkjplfaaGreatDoor
