/-
  CONTRACTS of the references mereref2.Member, Newer, View. CONDITIONS: none.
-/
import Derived.Test.YtgamocljdbffpaaDoorView5
namespace Go.Proofs.YtgamocljdbffpaaDoor
open Go.RowKit
open Go.ChangeShapes Go.WideShapes Go.ChangeAt

set_option maxHeartbeats 1000000 in
theorem rmember_any (x0 x1 x2 : Int) (w : World) : Calls Tryd.prog 17 #[.agg #[.int .i64 x0, .int .i64 x1, .int .i64 x2]] w fun e w' => e = .returned (.bool (rightB ⟨x0, x1, x2⟩)) ∧ Below w.heap.size w w' := by
  have HR := hid (show rightB ⟨x0, x1, x2⟩ = (decide (0 ≤ x0) && decide (x0 ≤ 5) && decide (0 ≤ x1) && decide (x1 ≤ 100) && decide (0 ≤ x2) && decide (x2 ≤ 2)) by simp [rightB, nodeB])
  rcases (show x0 < 0 ∨ (0 ≤ x0 ∧ 5 < x0) ∨ (0 ≤ x0 ∧ x0 ≤ 5 ∧ x1 < 0) ∨ (0 ≤ x0 ∧ x0 ≤ 5 ∧ 0 ≤ x1 ∧ 100 < x1) ∨ (0 ≤ x0 ∧ x0 ≤ 5 ∧ 0 ≤ x1 ∧ x1 ≤ 100 ∧ x2 < 0) ∨ (0 ≤ x0 ∧ x0 ≤ 5 ∧ 0 ≤ x1 ∧ x1 ≤ 100 ∧ 0 ≤ x2 ∧ 2 < x2) ∨ (0 ≤ x0 ∧ x0 ≤ 5 ∧ 0 ≤ x1 ∧ x1 ≤ 100 ∧ 0 ≤ x2 ∧ x2 ≤ 2) by omega) with h1 | ⟨h1, h2⟩ | ⟨h1, h2, h3⟩ | ⟨h1, h2, h3, h4⟩ | ⟨h1, h2, h3, h4, h5⟩ | ⟨h1, h2, h3, h4, h5, h6⟩ | ⟨h1, h2, h3, h4, h5, h6⟩
  all_goals
    go_enter Tryd.func17, Tryd.ntmps17
    go_wp2_with fail
    go_ret
    refine ⟨ret_b ?_, by (repeat (first | with_reducible exact Below.refl _ _ | with_reducible assumption | (with_reducible refine Below.drew ?_) | (with_reducible refine Below.manyDrew ?_ _) | ((with_reducible refine Below.alloc ?_ ?_ _); rotate_left; (focus (first | omega | (dsimp only; omega) | (simp; done) | (simp; omega)))) | ((with_reducible refine Below.setCell ?_ ?_ _); rotate_left; (focus (first | omega | (dsimp only; omega) | (simp; done) | (simp; omega)))) | ((with_reducible refine Below.step ?_ (by assumption) ?_); rotate_left; (focus (first | omega | (dsimp only; omega) | (simp; done) | (simp; omega))))))⟩
    rw [HR.out]
    first
      | (simp; done)
      | (simp; omega)
      | (rw [Bool.eq_iff_iff]; simp; omega)

set_option maxHeartbeats 1000000 in
theorem rnewer_any (x0 x1 x2 y0 y1 y2 : Int) (w : World) : Calls Tryd.prog 18 #[.agg #[.int .i64 x0, .int .i64 x1, .int .i64 x2], .agg #[.int .i64 y0, .int .i64 y1, .int .i64 y2]] w fun e w' => e = .returned (.bool (aboveB ⟨x0, x1, x2⟩ ⟨y0, y1, y2⟩)) ∧ Below w.heap.size w w' := by
  have HR := hid (show aboveB ⟨x0, x1, x2⟩ ⟨y0, y1, y2⟩ = (decide (y1 < x1) || (decide (x1 = y1) && decide (y2 < x2))) from rfl)
  rcases (show y1 < x1 ∨ (¬ y1 < x1 ∧ ¬ x1 = y1) ∨ (¬ y1 < x1 ∧ x1 = y1 ∧ y2 < x2) ∨ (¬ y1 < x1 ∧ x1 = y1 ∧ ¬ y2 < x2) by omega) with h1 | ⟨h1, h2⟩ | ⟨h1, h2, h3⟩ | ⟨h1, h2, h3⟩
  · have HV := hid (show aboveB ⟨x0, x1, x2⟩ ⟨y0, y1, y2⟩ = true by rw [HR.out]; simp [h1])
    go_enter Tryd.func18, Tryd.ntmps18
    go_wp2_with fail
    go_ret
    exact ⟨ret_b (by rw [HV.out]), by (repeat (first | with_reducible exact Below.refl _ _ | with_reducible assumption | (with_reducible refine Below.drew ?_) | (with_reducible refine Below.manyDrew ?_ _) | ((with_reducible refine Below.alloc ?_ ?_ _); rotate_left; (focus (first | omega | (dsimp only; omega) | (simp; done) | (simp; omega)))) | ((with_reducible refine Below.setCell ?_ ?_ _); rotate_left; (focus (first | omega | (dsimp only; omega) | (simp; done) | (simp; omega)))) | ((with_reducible refine Below.step ?_ (by assumption) ?_); rotate_left; (focus (first | omega | (dsimp only; omega) | (simp; done) | (simp; omega))))))⟩
  · have HV := hid (show aboveB ⟨x0, x1, x2⟩ ⟨y0, y1, y2⟩ = false by rw [HR.out]; simp [h1, h2])
    have h2b : (x1 == y1) = false := by rw [beq_eq_false_iff_ne]; exact h2
    clear h2
    go_enter Tryd.func18, Tryd.ntmps18
    go_wp2_with fail
    go_ret
    exact ⟨ret_b (by rw [HV.out]), by (repeat (first | with_reducible exact Below.refl _ _ | with_reducible assumption | (with_reducible refine Below.drew ?_) | (with_reducible refine Below.manyDrew ?_ _) | ((with_reducible refine Below.alloc ?_ ?_ _); rotate_left; (focus (first | omega | (dsimp only; omega) | (simp; done) | (simp; omega)))) | ((with_reducible refine Below.setCell ?_ ?_ _); rotate_left; (focus (first | omega | (dsimp only; omega) | (simp; done) | (simp; omega)))) | ((with_reducible refine Below.step ?_ (by assumption) ?_); rotate_left; (focus (first | omega | (dsimp only; omega) | (simp; done) | (simp; omega))))))⟩
  · have HV := hid (show aboveB ⟨x0, x1, x2⟩ ⟨y0, y1, y2⟩ = true by rw [HR.out]; simp [h2, h3])
    have h2b : (x1 == y1) = true := by rw [beq_iff_eq]; exact h2
    clear h2
    go_enter Tryd.func18, Tryd.ntmps18
    go_wp2_with fail
    go_ret
    exact ⟨ret_b (by rw [HV.out]), by (repeat (first | with_reducible exact Below.refl _ _ | with_reducible assumption | (with_reducible refine Below.drew ?_) | (with_reducible refine Below.manyDrew ?_ _) | ((with_reducible refine Below.alloc ?_ ?_ _); rotate_left; (focus (first | omega | (dsimp only; omega) | (simp; done) | (simp; omega)))) | ((with_reducible refine Below.setCell ?_ ?_ _); rotate_left; (focus (first | omega | (dsimp only; omega) | (simp; done) | (simp; omega)))) | ((with_reducible refine Below.step ?_ (by assumption) ?_); rotate_left; (focus (first | omega | (dsimp only; omega) | (simp; done) | (simp; omega))))))⟩
  · have HV := hid (show aboveB ⟨x0, x1, x2⟩ ⟨y0, y1, y2⟩ = false by rw [HR.out]; simp [h1, h3])
    have h2b : (x1 == y1) = true := by rw [beq_iff_eq]; exact h2
    clear h2
    go_enter Tryd.func18, Tryd.ntmps18
    go_wp2_with fail
    go_ret
    exact ⟨ret_b (by rw [HV.out]), by (repeat (first | with_reducible exact Below.refl _ _ | with_reducible assumption | (with_reducible refine Below.drew ?_) | (with_reducible refine Below.manyDrew ?_ _) | ((with_reducible refine Below.alloc ?_ ?_ _); rotate_left; (focus (first | omega | (dsimp only; omega) | (simp; done) | (simp; omega)))) | ((with_reducible refine Below.setCell ?_ ?_ _); rotate_left; (focus (first | omega | (dsimp only; omega) | (simp; done) | (simp; omega)))) | ((with_reducible refine Below.step ?_ (by assumption) ?_); rotate_left; (focus (first | omega | (dsimp only; omega) | (simp; done) | (simp; omega))))))⟩

set_option maxHeartbeats 2000000 in
theorem rview_any (s : SlV M) (w : World) (hs : MsAt w s) :
    Calls Tryd.prog 20 #[.slice s.A s.xs.length s.c] w fun e w' => e = .returned (.int .i64 (chkV s.xs)) ∧ Below w.heap.size w w' := by
  have hlen := hs.len
  unfold maxLen at hlen
  by_cases h8 : 6 < s.xs.length
  · have h8' : (6 : Int) < (s.xs.length : Int) := by omega
    rw [chkV, if_pos h8]
    go_enter Tryd.func20, Tryd.ntmps20
    go_wp2_with fail
    go_ret
    exact ⟨rfl, by (repeat (first | with_reducible exact Below.refl _ _ | with_reducible assumption | (with_reducible refine Below.drew ?_) | (with_reducible refine Below.manyDrew ?_ _) | ((with_reducible refine Below.alloc ?_ ?_ _); rotate_left; (focus (first | omega | (dsimp only; omega) | (simp; done) | (simp; omega)))) | ((with_reducible refine Below.setCell ?_ ?_ _); rotate_left; (focus (first | omega | (dsimp only; omega) | (simp; done) | (simp; omega)))) | ((with_reducible refine Below.step ?_ (by assumption) ?_); rotate_left; (focus (first | omega | (dsimp only; omega) | (simp; done) | (simp; omega))))))⟩
  · have h8' : ¬ (6 : Int) < (s.xs.length : Int) := by omega
    generalize hr : chkV s.xs = r
    rw [chkV, if_neg h8] at hr
    have Hr := hid hr
    clear hr
    go_enter Tryd.func20, Tryd.ntmps20
    go_wp2_with fail
    go_loopw [3] (fun i wr => ∃ k : Nat, k ≤ s.xs.length ∧ i = .int .i64 k ∧ chkVs (if k = 0 then none else some (s.xs.getD (k - 1) M.zero).node) (s.xs.drop k) = r ∧ Below w.heap.size w wr) (fun i _ => s.xs.length - (intOf i).toNat)
    case atStart => exact ⟨0, Nat.zero_le _, rfl, Hr.out, Below.refl _ _⟩
    case round =>
      obtain ⟨k, hk, rfl, hkr, hbr⟩ := hrel
      have hz0 := hbr.size
      by_cases hlt : k < s.xs.length
      · obtain ⟨g, off, hA, hg, hcells⟩ := hs.row (by omega)
        obtain ⟨k0, k1, k2⟩ := (hcells k hlt).stays hbr hg
        have hgr : g < wr.heap.size := by omega
        have hd := drop_consD M.zero hlt
        rw [hd, chkVs] at hkr
        by_cases hk0 : k = 0
        · subst hk0
          rw [if_pos rfl] at hkr
          rw [Nat.zero_mul, Nat.add_zero] at k0 k1 k2
          rw [Nat.zero_add] at hd hkr
          obtain ⟨x, hx⟩ : ∃ x, s.xs.getD 0 M.zero = x := ⟨_, rfl⟩
          rw [hx] at hkr k0 k1 k2
          have Hx := hid hx
          clear hx
          obtain ⟨x0, x1, x2⟩ := x
          simp only at k0 k1 k2
          have Hkr := hid hkr
          rw [hA]
          clear hA hkr hcells hd
          go_wp2_with fail
          refine (rmember_any x0 x1 x2 _).mono ?_
          rcases hc : rightB ⟨x0, x1, x2⟩ with _ | _
          · rintro e w1 ⟨rfl, hb1⟩
            have hcr : (1 : Int) = r := by rw [← Hkr.out, hc, if_neg (by decide)]
            subst hcr
            clear Hkr hc
            go_wp2_with fail
            go_ret
            exact ⟨rfl, by (repeat (first | with_reducible exact Below.refl _ _ | with_reducible assumption | (with_reducible refine Below.drew ?_) | (with_reducible refine Below.manyDrew ?_ _) | ((with_reducible refine Below.alloc ?_ ?_ _); rotate_left; (focus (first | omega | (dsimp only; omega) | (simp; done) | (simp; omega)))) | ((with_reducible refine Below.setCell ?_ ?_ _); rotate_left; (focus (first | omega | (dsimp only; omega) | (simp; done) | (simp; omega)))) | ((with_reducible refine Below.step ?_ (by assumption) ?_); rotate_left; (focus (first | omega | (dsimp only; omega) | (simp; done) | (simp; omega))))))⟩
          · rintro e w1 ⟨rfl, hb1⟩
            have Hkr2 := hid ((if_pos hc).symm.trans Hkr.out)
            clear Hkr hc
            go_wp2_with fail
            go_quiet (fail)
            go_wp2_with fail
            go_roundw
            case rel => exact ⟨1, by omega, by go_num, by show chkVs (some (s.xs.getD 0 M.zero).node) _ = _; rw [Hx.out]; exact Hkr2.out, by (repeat (first | with_reducible exact Below.refl _ _ | with_reducible assumption | (with_reducible refine Below.drew ?_) | (with_reducible refine Below.manyDrew ?_ _) | ((with_reducible refine Below.alloc ?_ ?_ _); rotate_left; (focus (first | omega | (dsimp only; omega) | (simp; done) | (simp; omega)))) | ((with_reducible refine Below.setCell ?_ ?_ _); rotate_left; (focus (first | omega | (dsimp only; omega) | (simp; done) | (simp; omega)))) | ((with_reducible refine Below.step ?_ (by assumption) ?_); rotate_left; (focus (first | omega | (dsimp only; omega) | (simp; done) | (simp; omega))))))⟩
            case measure => simp [intOf]; omega
        · have hq := ((hcells (k - 1) (by omega)).stays hbr hg).c0
          rw [if_neg hk0] at hkr
          generalize s.xs.getD (k - 1) M.zero = y at *
          obtain ⟨x, hx⟩ : ∃ x, s.xs.getD k M.zero = x := ⟨_, rfl⟩
          rw [hx] at hkr k0 k1 k2
          have Hx := hid hx
          clear hx
          obtain ⟨x0, x1, x2⟩ := x
          simp only at k0 k1 k2
          have Hkr := hid hkr
          rw [hA]
          clear hA hkr hcells hd
          go_wp2_with fail
          refine (rmember_any x0 x1 x2 _).mono ?_
          rcases hc : rightB ⟨x0, x1, x2⟩ with _ | _
          · rintro e w1 ⟨rfl, hb1⟩
            have hcr : (1 : Int) = r := by rw [← Hkr.out, hc, if_neg (by decide)]
            subst hcr
            clear Hkr hc
            go_wp2_with fail
            go_ret
            exact ⟨rfl, by (repeat (first | with_reducible exact Below.refl _ _ | with_reducible assumption | (with_reducible refine Below.drew ?_) | (with_reducible refine Below.manyDrew ?_ _) | ((with_reducible refine Below.alloc ?_ ?_ _); rotate_left; (focus (first | omega | (dsimp only; omega) | (simp; done) | (simp; omega)))) | ((with_reducible refine Below.setCell ?_ ?_ _); rotate_left; (focus (first | omega | (dsimp only; omega) | (simp; done) | (simp; omega)))) | ((with_reducible refine Below.step ?_ (by assumption) ?_); rotate_left; (focus (first | omega | (dsimp only; omega) | (simp; done) | (simp; omega))))))⟩
          · rintro e w1 ⟨rfl, hb1⟩
            obtain ⟨hc1, hf1⟩ := bcell hb1
            have e0 := (hb1.cell (p := ⟨g, _, none⟩) hgr).trans k0
            have hq1 := (hb1.cell (p := ⟨g, _, none⟩) hgr).trans hq
            have hj0 : 0 < k := by omega
            have hj1 : (k : Int) < (s.xs.length : Int) := by omega
            have Hkr2 := hid ((if_pos hc).symm.trans Hkr.out)
            clear Hkr hc
            by_cases hle : x0 ≤ y.node
            · have hr3 : (3 : Int) = r := by rw [← Hkr2.out, vlow]; simp [hle]
              subst hr3
              clear Hkr2
              go_wp2_with fail
              go_quiet (fail)
              go_wp2_with fail
              go_ret
              exact ⟨rfl, by (repeat (first | with_reducible exact Below.refl _ _ | with_reducible assumption | (with_reducible refine Below.drew ?_) | (with_reducible refine Below.manyDrew ?_ _) | ((with_reducible refine Below.alloc ?_ ?_ _); rotate_left; (focus (first | omega | (dsimp only; omega) | (simp; done) | (simp; omega)))) | ((with_reducible refine Below.setCell ?_ ?_ _); rotate_left; (focus (first | omega | (dsimp only; omega) | (simp; done) | (simp; omega)))) | ((with_reducible refine Below.step ?_ (by assumption) ?_); rotate_left; (focus (first | omega | (dsimp only; omega) | (simp; done) | (simp; omega))))))⟩
            · have Hkr3 := hid ((if_neg (show ¬ vlow (some y.node) x0 = true by simp [vlow]; omega)).symm.trans Hkr2.out)
              clear Hkr2
              go_wp2_with fail
              go_quiet (fail)
              go_wp2_with fail
              go_roundw
              case rel => exact ⟨k + 1, by omega, by go_num, by rw [if_neg (Nat.succ_ne_zero k), Nat.add_sub_cancel]; rw [Hx.out]; exact Hkr3.out, by (repeat (first | with_reducible exact Below.refl _ _ | with_reducible assumption | (with_reducible refine Below.drew ?_) | (with_reducible refine Below.manyDrew ?_ _) | ((with_reducible refine Below.alloc ?_ ?_ _); rotate_left; (focus (first | omega | (dsimp only; omega) | (simp; done) | (simp; omega)))) | ((with_reducible refine Below.setCell ?_ ?_ _); rotate_left; (focus (first | omega | (dsimp only; omega) | (simp; done) | (simp; omega)))) | ((with_reducible refine Below.step ?_ (by assumption) ?_); rotate_left; (focus (first | omega | (dsimp only; omega) | (simp; done) | (simp; omega))))))⟩
              case measure => simp [intOf]; omega
      · obtain rfl : k = s.xs.length := by omega
        have hr0 : (0 : Int) = r := by
          rw [List.drop_length] at hkr
          exact hkr
        subst hr0
        clear hkr
        go_wp2_with fail
        go_ret
        exact ⟨rfl, by (repeat (first | with_reducible exact Below.refl _ _ | with_reducible assumption | (with_reducible refine Below.drew ?_) | (with_reducible refine Below.manyDrew ?_ _) | ((with_reducible refine Below.alloc ?_ ?_ _); rotate_left; (focus (first | omega | (dsimp only; omega) | (simp; done) | (simp; omega)))) | ((with_reducible refine Below.setCell ?_ ?_ _); rotate_left; (focus (first | omega | (dsimp only; omega) | (simp; done) | (simp; omega)))) | ((with_reducible refine Below.step ?_ (by assumption) ?_); rotate_left; (focus (first | omega | (dsimp only; omega) | (simp; done) | (simp; omega))))))⟩
end Go.Proofs.YtgamocljdbffpaaDoor
