/-
  CONTRACT of the reference's Ring. CONDITIONS: none.
-/
import Derived.Test.YtepddjfbkjplfaaGreatDoorRtLaw
import Derived.BigQuiet
namespace Go.Proofs.YtepddjfbkjplfaaGreatDoor
open Go.RowKit
open Go.ChangeShapes Go.WideShapes Go.ChangeAt

set_option maxHeartbeats 8000000 in
set_option maxRecDepth 100000 in
theorem ringR_any (s : SlV Pt) (w : World) (hs : PtsAt w s) :
    Calls Tryz.prog 9 #[.slice s.A s.xs.length s.c] w fun e w' => e = .returned (.bool (rightP s.xs)) ∧ Below w.heap.size w w' := by
  have hlen := hs.len
  unfold maxLen at hlen
  have HS := hid (fun W (hW : Below w.heap.size w W) => hs.stays hW)
  clear hs
  have hRP : ∀ c : Prop, (s.xs.length < 1 ∨ 48 < s.xs.length) → rightP s.xs = false := fun _ h => by
    rw [rightP]
    rcases h with h | h
    · rw [decide_eq_false (show ¬ 0 < s.xs.length by omega), Bool.and_false, Bool.false_and]
    · rw [decide_eq_false (show ¬ s.xs.length ≤ 48 by omega), Bool.and_false]
  by_cases h1 : s.xs.length < 1
  · rw [hRP True (.inl h1)]
    have h1' : (s.xs.length : Int) < 1 := by omega
    clear hRP h1
    go_enter Tryz.func9, Tryz.ntmps9
    go_wp2_with fail
    go_ret
    exact ⟨rfl, Below.refl _ _⟩
  by_cases h48 : 48 < s.xs.length
  · rw [hRP True (.inr h48)]
    have h1' : ¬ (s.xs.length : Int) < 1 := by omega
    have h48' : (48 : Int) < (s.xs.length : Int) := by omega
    clear hRP h1 h48
    go_enter Tryz.func9, Tryz.ntmps9
    go_wp2_with fail
    go_ret
    exact ⟨rfl, Below.refl _ _⟩
  have h1' : ¬ (s.xs.length : Int) < 1 := by omega
  have h48' : ¬ (48 : Int) < (s.xs.length : Int) := by omega
  rw [rightP, decide_eq_true (show 0 < s.xs.length by omega), decide_eq_true (show s.xs.length ≤ 48 by omega), Bool.and_true, Bool.and_true]
  generalize hR : rightF none s.xs = R
  have HR := hid hR
  clear hR hRP h48
  go_enter Tryz.func9, Tryz.ntmps9
  go_wp2_with fail
  go_loopw [3] (fun i wr => ∃ j : Nat, j ≤ s.xs.length ∧ i = .int .i64 j ∧ rightF (if j = 0 then none else some (s.xs.getD (j - 1) Pt.zero)) (s.xs.drop j) = R ∧ Below w.heap.size w wr) (fun i _ => s.xs.length - (intOf i).toNat)
  case atStart => exact ⟨0, Nat.zero_le _, rfl, HR.out, Below.refl _ _⟩
  case round =>
    obtain ⟨j, hj, rfl, hkr, hbr⟩ := hrel
    obtain ⟨wj, rfl⟩ : ∃ wj : World, wj = wr := ⟨_, rfl⟩
    have Hbr := hid hbr
    by_cases hlt : j < s.xs.length
    · obtain ⟨b, off, hA, hb, hcells⟩ := (HS.out wj hbr).row (by omega)
      obtain ⟨k0, k1⟩ := hcells j hlt
      have hprev := hid (fun (h0 : 0 < j) => hcells (j - 1) (by omega))
      rw [drop_consD Pt.zero hlt, rightF_cons] at hkr
      have hjl : (j : Int) < (s.xs.length : Int) := by omega
      have Hnext := hid (show (if j + 1 = 0 then none else some (s.xs.getD (j + 1 - 1) Pt.zero)) = some (s.xs.getD j Pt.zero) by rw [if_neg (by omega), Nat.add_sub_cancel])
      obtain ⟨x, hx⟩ : ∃ x, s.xs.getD j Pt.zero = x := ⟨_, rfl⟩
      rw [hx] at k0 k1 hkr Hnext
      obtain ⟨x0, x1⟩ := x
      simp only at k0 k1
      rw [hA]
      clear hA hcells hbr hx
      rcases (show x0 < 0 ∨ (¬ x0 < 0 ∧ 255 < x0) ∨ (¬ x0 < 0 ∧ ¬ 255 < x0 ∧ x1 < 0) ∨ (¬ x0 < 0 ∧ ¬ 255 < x0 ∧ ¬ x1 < 0 ∧ 5 < x1) ∨ (¬ x0 < 0 ∧ ¬ 255 < x0 ∧ ¬ x1 < 0 ∧ ¬ 5 < x1) by omega) with h | ⟨h, h2⟩ | ⟨h, h2, h3⟩ | ⟨h, h2, h3, h4⟩ | ⟨h, h2, h3, h4⟩
      case inr.inr.inr.inr =>
        have hbd : boundP ⟨x0, x1⟩ = true := by simp [boundP, nodeB]; omega
        rw [hbd, Bool.true_and] at hkr
        by_cases h0 : 0 < j
        · obtain ⟨d0, d1⟩ := hprev.out h0
          rw [if_neg (by omega)] at hkr
          simp only at hkr
          obtain ⟨y, hy⟩ : ∃ y, s.xs.getD (j - 1) Pt.zero = y := ⟨_, rfl⟩
          rw [hy] at d0 d1 hkr
          obtain ⟨y0, y1⟩ := y
          simp only at d0 d1
          have g3 : decide ((0 : Int) < (j : Int)) = true := decide_eq_true (by omega)
          have g3' : decide (0 < j) = true := decide_eq_true h0
          have hwr : IntKind.i64.wrap ((j : Int) - 1) = ((j - 1 : Nat) : Int) := (IntWalk.i64_in ((j : Int) - 1) (by omega)).trans (by omega)
          have hj1 : ((j - 1 : Nat) : Int) < (s.xs.length : Int) := by omega
          rcases (show x0 < y0 ∨ (¬ x0 < y0 ∧ x0 = y0 ∧ x1 ≤ y1) ∨ (¬ x0 < y0 ∧ x0 = y0 ∧ ¬ x1 ≤ y1) ∨ (¬ x0 < y0 ∧ x0 ≠ y0) by omega) with u | ⟨u, u2, u3⟩ | ⟨u, u2, u3⟩ | ⟨u, u2⟩
          · have HF := hid (show false = R by rw [← hkr, show ltP ⟨y0, y1⟩ ⟨x0, x1⟩ = false by rw [← Bool.not_eq_true, ltP_true]; simp only; omega]; rfl)
            have u0 : decide (x0 < y0) = true := decide_eq_true u
            clear hkr hprev hy hbd
            go_wp2_with fail
            go_quiet (fail)
            go_wp2_with fail
            go_ret
            exact ⟨by rw [← HF.out]; rfl, Below.manyDrew Hbr.out _⟩
          · have HF := hid (show false = R by rw [← hkr, show ltP ⟨y0, y1⟩ ⟨x0, x1⟩ = false by rw [← Bool.not_eq_true, ltP_true]; simp only; omega]; rfl)
            have u0 : decide (x0 < y0) = false := decide_eq_false u
            have u1 : (x0 == y0) = true := by rw [beq_iff_eq]; exact u2
            have u4 : decide (x1 ≤ y1) = true := decide_eq_true u3
            clear hkr hprev hy hbd
            go_wp2_with fail
            go_quiet (fail)
            go_wp2_with fail
            go_ret
            exact ⟨by rw [← HF.out]; rfl, Below.manyDrew Hbr.out _⟩
          · have HF := hid (show rightF (if j + 1 = 0 then none else some (s.xs.getD (j + 1 - 1) Pt.zero)) (s.xs.drop (j + 1)) = R by rw [Hnext.out, ← hkr, show ltP ⟨y0, y1⟩ ⟨x0, x1⟩ = true by rw [ltP_true]; simp only; omega]; rfl)
            have u0 : decide (x0 < y0) = false := decide_eq_false u
            have u1 : (x0 == y0) = true := by rw [beq_iff_eq]; exact u2
            have u4 : decide (x1 ≤ y1) = false := decide_eq_false u3
            clear hkr hprev hy hbd
            go_wp2_with fail
            go_quiet (fail)
            go_wp2_with fail
            go_roundw
            case rel => exact ⟨j + 1, by omega, by go_num, HF.out, Below.manyDrew Hbr.out _⟩
            case measure => simp [intOf]; omega
          · have HF := hid (show rightF (if j + 1 = 0 then none else some (s.xs.getD (j + 1 - 1) Pt.zero)) (s.xs.drop (j + 1)) = R by rw [Hnext.out, ← hkr, show ltP ⟨y0, y1⟩ ⟨x0, x1⟩ = true by rw [ltP_true]; simp only; omega]; rfl)
            have u0 : decide (x0 < y0) = false := decide_eq_false u
            have u1 : (x0 == y0) = false := by rw [beq_eq_false_iff_ne]; exact u2
            clear hkr hprev hy hbd
            go_wp2_with fail
            go_quiet (fail)
            go_wp2_with fail
            go_roundw
            case rel => exact ⟨j + 1, by omega, by go_num, HF.out, Below.manyDrew Hbr.out _⟩
            case measure => simp [intOf]; omega
        · obtain rfl : j = 0 := by omega
          have HF := hid (show rightF (if 0 + 1 = 0 then none else some (s.xs.getD (0 + 1 - 1) Pt.zero)) (s.xs.drop (0 + 1)) = R by rw [Hnext.out, ← hkr]; rfl)
          rw [Nat.zero_mul, Nat.add_zero] at k0 k1
          clear hkr hprev hbd h0
          go_wp2_with fail
          go_quiet (fail)
          go_wp2_with fail
          go_roundw
          case rel => exact ⟨0 + 1, by omega, by go_num, HF.out, Below.manyDrew Hbr.out _⟩
          case measure => simp [intOf]; omega
      all_goals
        have HF := hid (show false = R by rw [← hkr, show boundP ⟨x0, x1⟩ = false by rw [← Bool.not_eq_true]; simp [boundP, nodeB]; omega]; rfl)
        clear hkr hprev
        go_wp2_with fail
        go_ret
        exact ⟨by rw [← HF.out]; rfl, Hbr.out⟩
    · obtain rfl : j = s.xs.length := by omega
      rw [List.drop_length] at hkr
      have HF := hid (show true = R from hkr)
      clear hkr hbr
      go_wp2_with fail
      go_ret
      exact ⟨by rw [← HF.out]; rfl, Hbr.out⟩
end Go.Proofs.YtepddjfbkjplfaaGreatDoor
