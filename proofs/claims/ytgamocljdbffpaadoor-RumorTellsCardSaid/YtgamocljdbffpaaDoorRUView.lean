/-
  CONTRACT of the reference mereref2.Rumors. CONDITIONS: none.
-/
import Derived.Test.YtgamocljdbffpaaDoorRView
import Derived.Test.YtgamocljdbffpaaDoorULaw
namespace Go.Proofs.YtgamocljdbffpaaDoor
open Go.RowKit
open Go.ChangeShapes Go.WideShapes Go.ChangeAt

set_option maxHeartbeats 2000000 in
theorem rrumors_any (s : SlV U) (w : World) (hs : UsAt w s) :
    Calls Tryd.prog 27 #[.slice s.A s.xs.length s.c] w fun e w' => e = .returned (.int .i64 (chkU s.xs)) ∧ Below w.heap.size w w' := by
  have hlen := hs.len
  unfold maxLen at hlen
  by_cases h8 : 6 < s.xs.length
  · have h8' : (6 : Int) < (s.xs.length : Int) := by omega
    rw [chkU, if_pos h8]
    go_enter Tryd.func27, Tryd.ntmps27
    go_wp2_with fail
    go_ret
    exact ⟨rfl, by (repeat (first | with_reducible exact Below.refl _ _ | with_reducible assumption | (with_reducible refine Below.drew ?_) | (with_reducible refine Below.manyDrew ?_ _) | ((with_reducible refine Below.alloc ?_ ?_ _); rotate_left; (focus (first | omega | (dsimp only; omega) | (simp; done) | (simp; omega)))) | ((with_reducible refine Below.setCell ?_ ?_ _); rotate_left; (focus (first | omega | (dsimp only; omega) | (simp; done) | (simp; omega)))) | ((with_reducible refine Below.step ?_ (by assumption) ?_); rotate_left; (focus (first | omega | (dsimp only; omega) | (simp; done) | (simp; omega))))))⟩
  · have h8' : ¬ (6 : Int) < (s.xs.length : Int) := by omega
    generalize hr : chkU s.xs = r
    rw [chkU, if_neg h8] at hr
    have Hr := hid hr
    clear hr
    go_enter Tryd.func27, Tryd.ntmps27
    go_wp2_with fail
    go_loopw [3] (fun i wr => ∃ k : Nat, k ≤ s.xs.length ∧ i = .int .i64 k ∧ chkUs (if k = 0 then none else some (s.xs.getD (k - 1) U.zero).node) (s.xs.drop k) = r ∧ Below w.heap.size w wr) (fun i _ => s.xs.length - (intOf i).toNat)
    case atStart => exact ⟨0, Nat.zero_le _, rfl, Hr.out, Below.refl _ _⟩
    case round =>
      obtain ⟨k, hk, rfl, hkr, hbr⟩ := hrel
      have hz0 := hbr.size
      by_cases hlt : k < s.xs.length
      · obtain ⟨g, off, hA, hg, hcells⟩ := hs.row (by omega)
        obtain ⟨k0, k1, k2, k3⟩ := (hcells k hlt).stays hbr hg
        have hgr : g < wr.heap.size := by omega
        have hd := drop_consD U.zero hlt
        rw [hd, chkUs] at hkr
        by_cases hk0 : k = 0
        · subst hk0
          rw [if_pos rfl] at hkr
          rw [Nat.zero_mul, Nat.add_zero] at k0 k1 k2 k3
          rw [Nat.zero_add] at hd hkr
          obtain ⟨x, hx⟩ : ∃ x, s.xs.getD 0 U.zero = x := ⟨_, rfl⟩
          rw [hx] at hkr k0 k1 k2 k3
          have Hx := hid hx
          clear hx
          obtain ⟨x0, x1, x2, x3⟩ := x
          simp only at k0 k1 k2 k3
          have Hkr := hid hkr
          rw [hA]
          clear hA hkr hcells hd
          go_wp2_with fail
          refine (rmember_any x0 x1 x2 _).mono ?_
          rcases hc : rightB ⟨x0, x1, x2⟩ with _ | _
          · rintro e w1 ⟨rfl, hb1⟩
            have hcr : (1 : Int) = r := by rw [← Hkr.out, okU, show rightB (U.mem ⟨x0, x1, x2, x3⟩) = false from hc]; rfl
            subst hcr
            clear Hkr hc
            go_wp2_with fail
            go_ret
            exact ⟨rfl, by (repeat (first | with_reducible exact Below.refl _ _ | with_reducible assumption | (with_reducible refine Below.drew ?_) | (with_reducible refine Below.manyDrew ?_ _) | ((with_reducible refine Below.alloc ?_ ?_ _); rotate_left; (focus (first | omega | (dsimp only; omega) | (simp; done) | (simp; omega)))) | ((with_reducible refine Below.setCell ?_ ?_ _); rotate_left; (focus (first | omega | (dsimp only; omega) | (simp; done) | (simp; omega)))) | ((with_reducible refine Below.step ?_ (by assumption) ?_); rotate_left; (focus (first | omega | (dsimp only; omega) | (simp; done) | (simp; omega))))))⟩
          rcases ht : turnB x3 with _ | _
          · have hcr : (1 : Int) = r := by rw [← Hkr.out, okU, show rightB (U.mem ⟨x0, x1, x2, x3⟩) = true from hc, show turnB (U.told ⟨x0, x1, x2, x3⟩) = false from ht]; rfl
            subst hcr
            have ht2 : x3 < 0 ∨ (0 ≤ x3 ∧ 60 < x3) := by
              have : ¬ (0 ≤ x3 ∧ x3 ≤ 60) := fun h => by rw [turnB_true.2 h] at ht; cases ht
              omega
            clear Hkr hc ht
            rcases ht2 with h | ⟨h, h2⟩
            all_goals
              rintro e w1 ⟨rfl, hb1⟩
              obtain ⟨hc1, hf1⟩ := bcell hb1
              have e3 := (hb1.cell (p := ⟨g, _, none⟩) hgr).trans k3
              have hj1 : ((0 : Nat) : Int) < (s.xs.length : Int) := by omega
              go_wp2_with fail
              go_ret
              exact ⟨rfl, by (repeat (first | with_reducible exact Below.refl _ _ | with_reducible assumption | (with_reducible refine Below.drew ?_) | (with_reducible refine Below.manyDrew ?_ _) | ((with_reducible refine Below.alloc ?_ ?_ _); rotate_left; (focus (first | omega | (dsimp only; omega) | (simp; done) | (simp; omega)))) | ((with_reducible refine Below.setCell ?_ ?_ _); rotate_left; (focus (first | omega | (dsimp only; omega) | (simp; done) | (simp; omega)))) | ((with_reducible refine Below.step ?_ (by assumption) ?_); rotate_left; (focus (first | omega | (dsimp only; omega) | (simp; done) | (simp; omega))))))⟩
          obtain ⟨ht0, ht6⟩ := turnB_true.1 ht
          have hok : okU ⟨x0, x1, x2, x3⟩ = true := by rw [okU, show rightB (U.mem ⟨x0, x1, x2, x3⟩) = true from hc, show turnB (U.told ⟨x0, x1, x2, x3⟩) = true from ht]; rfl
          clear ht
          · rintro e w1 ⟨rfl, hb1⟩
            have e3 := (hb1.cell (p := ⟨g, _, none⟩) hgr).trans k3
            have Hkr2 := hid ((if_pos hok).symm.trans Hkr.out)
            clear Hkr hc hok
            go_wp2_with fail
            go_quiet (fail)
            go_wp2_with fail
            go_roundw
            case rel => exact ⟨1, by omega, by go_num, by show chkUs (some (s.xs.getD 0 U.zero).node) _ = _; rw [Hx.out]; exact Hkr2.out, by (repeat (first | with_reducible exact Below.refl _ _ | with_reducible assumption | (with_reducible refine Below.drew ?_) | (with_reducible refine Below.manyDrew ?_ _) | ((with_reducible refine Below.alloc ?_ ?_ _); rotate_left; (focus (first | omega | (dsimp only; omega) | (simp; done) | (simp; omega)))) | ((with_reducible refine Below.setCell ?_ ?_ _); rotate_left; (focus (first | omega | (dsimp only; omega) | (simp; done) | (simp; omega)))) | ((with_reducible refine Below.step ?_ (by assumption) ?_); rotate_left; (focus (first | omega | (dsimp only; omega) | (simp; done) | (simp; omega))))))⟩
            case measure => simp [intOf]; omega
        · have hq := ((hcells (k - 1) (by omega)).stays hbr hg).c0
          rw [if_neg hk0] at hkr
          generalize s.xs.getD (k - 1) U.zero = y at *
          obtain ⟨x, hx⟩ : ∃ x, s.xs.getD k U.zero = x := ⟨_, rfl⟩
          rw [hx] at hkr k0 k1 k2 k3
          have Hx := hid hx
          clear hx
          obtain ⟨x0, x1, x2, x3⟩ := x
          simp only at k0 k1 k2 k3
          have Hkr := hid hkr
          rw [hA]
          clear hA hkr hcells hd
          go_wp2_with fail
          refine (rmember_any x0 x1 x2 _).mono ?_
          rcases hc : rightB ⟨x0, x1, x2⟩ with _ | _
          · rintro e w1 ⟨rfl, hb1⟩
            have hcr : (1 : Int) = r := by rw [← Hkr.out, okU, show rightB (U.mem ⟨x0, x1, x2, x3⟩) = false from hc]; rfl
            subst hcr
            clear Hkr hc
            go_wp2_with fail
            go_ret
            exact ⟨rfl, by (repeat (first | with_reducible exact Below.refl _ _ | with_reducible assumption | (with_reducible refine Below.drew ?_) | (with_reducible refine Below.manyDrew ?_ _) | ((with_reducible refine Below.alloc ?_ ?_ _); rotate_left; (focus (first | omega | (dsimp only; omega) | (simp; done) | (simp; omega)))) | ((with_reducible refine Below.setCell ?_ ?_ _); rotate_left; (focus (first | omega | (dsimp only; omega) | (simp; done) | (simp; omega)))) | ((with_reducible refine Below.step ?_ (by assumption) ?_); rotate_left; (focus (first | omega | (dsimp only; omega) | (simp; done) | (simp; omega))))))⟩
          rcases ht : turnB x3 with _ | _
          · have hcr : (1 : Int) = r := by rw [← Hkr.out, okU, show rightB (U.mem ⟨x0, x1, x2, x3⟩) = true from hc, show turnB (U.told ⟨x0, x1, x2, x3⟩) = false from ht]; rfl
            subst hcr
            have ht2 : x3 < 0 ∨ (0 ≤ x3 ∧ 60 < x3) := by
              have : ¬ (0 ≤ x3 ∧ x3 ≤ 60) := fun h => by rw [turnB_true.2 h] at ht; cases ht
              omega
            clear Hkr hc ht
            rcases ht2 with h | ⟨h, h2⟩
            all_goals
              rintro e w1 ⟨rfl, hb1⟩
              obtain ⟨hc1, hf1⟩ := bcell hb1
              have e3 := (hb1.cell (p := ⟨g, _, none⟩) hgr).trans k3
              have hj1 : (k : Int) < (s.xs.length : Int) := by omega
              go_wp2_with fail
              go_ret
              exact ⟨rfl, by (repeat (first | with_reducible exact Below.refl _ _ | with_reducible assumption | (with_reducible refine Below.drew ?_) | (with_reducible refine Below.manyDrew ?_ _) | ((with_reducible refine Below.alloc ?_ ?_ _); rotate_left; (focus (first | omega | (dsimp only; omega) | (simp; done) | (simp; omega)))) | ((with_reducible refine Below.setCell ?_ ?_ _); rotate_left; (focus (first | omega | (dsimp only; omega) | (simp; done) | (simp; omega)))) | ((with_reducible refine Below.step ?_ (by assumption) ?_); rotate_left; (focus (first | omega | (dsimp only; omega) | (simp; done) | (simp; omega))))))⟩
          obtain ⟨ht0, ht6⟩ := turnB_true.1 ht
          have hok : okU ⟨x0, x1, x2, x3⟩ = true := by rw [okU, show rightB (U.mem ⟨x0, x1, x2, x3⟩) = true from hc, show turnB (U.told ⟨x0, x1, x2, x3⟩) = true from ht]; rfl
          clear ht
          · rintro e w1 ⟨rfl, hb1⟩
            obtain ⟨hc1, hf1⟩ := bcell hb1
            have e0 := (hb1.cell (p := ⟨g, _, none⟩) hgr).trans k0
            have hq1 := (hb1.cell (p := ⟨g, _, none⟩) hgr).trans hq
            have e3 := (hb1.cell (p := ⟨g, _, none⟩) hgr).trans k3
            have hj0 : 0 < k := by omega
            have hj1 : (k : Int) < (s.xs.length : Int) := by omega
            have Hkr2 := hid ((if_pos hok).symm.trans Hkr.out)
            clear Hkr hc hok
            by_cases hle : x0 ≤ y.node
            · have hr3 : (3 : Int) = r := by rw [← Hkr2.out, vlow]; simp [hle]
              subst hr3
              clear Hkr2
              go_wp2_with fail
              go_quiet (fail)
              go_wp2_with fail
              go_ret
              exact ⟨rfl, by (repeat (first | with_reducible exact Below.refl _ _ | with_reducible assumption | (with_reducible refine Below.drew ?_) | (with_reducible refine Below.manyDrew ?_ _) | ((with_reducible refine Below.alloc ?_ ?_ _); rotate_left; (focus (first | omega | (dsimp only; omega) | (simp; done) | (simp; omega)))) | ((with_reducible refine Below.setCell ?_ ?_ _); rotate_left; (focus (first | omega | (dsimp only; omega) | (simp; done) | (simp; omega)))) | ((with_reducible refine Below.step ?_ (by assumption) ?_); rotate_left; (focus (first | omega | (dsimp only; omega) | (simp; done) | (simp; omega))))))⟩
            · have Hkr3 := hid ((if_neg (show ¬ vlow (some y.node) x0 = true by simp [vlow]; omega)).symm.trans Hkr2.out)
              clear Hkr2
              go_wp2_with fail
              go_quiet (fail)
              go_wp2_with fail
              go_roundw
              case rel => exact ⟨k + 1, by omega, by go_num, by rw [if_neg (Nat.succ_ne_zero k), Nat.add_sub_cancel]; rw [Hx.out]; exact Hkr3.out, by (repeat (first | with_reducible exact Below.refl _ _ | with_reducible assumption | (with_reducible refine Below.drew ?_) | (with_reducible refine Below.manyDrew ?_ _) | ((with_reducible refine Below.alloc ?_ ?_ _); rotate_left; (focus (first | omega | (dsimp only; omega) | (simp; done) | (simp; omega)))) | ((with_reducible refine Below.setCell ?_ ?_ _); rotate_left; (focus (first | omega | (dsimp only; omega) | (simp; done) | (simp; omega)))) | ((with_reducible refine Below.step ?_ (by assumption) ?_); rotate_left; (focus (first | omega | (dsimp only; omega) | (simp; done) | (simp; omega))))))⟩
              case measure => simp [intOf]; omega
      · obtain rfl : k = s.xs.length := by omega
        have hr0 : (0 : Int) = r := by
          rw [List.drop_length] at hkr
          exact hkr
        subst hr0
        clear hkr
        go_wp2_with fail
        go_ret
        exact ⟨rfl, by (repeat (first | with_reducible exact Below.refl _ _ | with_reducible assumption | (with_reducible refine Below.drew ?_) | (with_reducible refine Below.manyDrew ?_ _) | ((with_reducible refine Below.alloc ?_ ?_ _); rotate_left; (focus (first | omega | (dsimp only; omega) | (simp; done) | (simp; omega)))) | ((with_reducible refine Below.setCell ?_ ?_ _); rotate_left; (focus (first | omega | (dsimp only; omega) | (simp; done) | (simp; omega)))) | ((with_reducible refine Below.step ?_ (by assumption) ?_); rotate_left; (focus (first | omega | (dsimp only; omega) | (simp; done) | (simp; omega))))))⟩
end Go.Proofs.YtgamocljdbffpaaDoor
