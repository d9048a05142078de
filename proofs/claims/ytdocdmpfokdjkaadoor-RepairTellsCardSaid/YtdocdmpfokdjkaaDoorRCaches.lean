/-
  CONTRACT of the reference mereref1.Caches. CONDITIONS: none.
-/
import Derived.Test.YtdocdmpfokdjkaaDoorTomb
import Derived.Test.YtdocdmpfokdjkaaDoorRCache
namespace Go.Proofs.YtdocdmpfokdjkaaDoor
open Go.RowKit
open Go.ChangeShapes Go.WideShapes Go.ChangeAt

/-! ### mereref1.Caches -/
set_option maxHeartbeats 1000000 in
theorem rcaches_any (s : SlV (SlV E)) (w : World) (hs : CachesAt w s) :
    Calls Tryd.prog 17 #[.slice s.A s.xs.length s.c] w fun e w' => e = .returned (.int .i64 (chkT s.xs)) ∧ Below w.heap.size w w' := by
  have hlen := hs.len
  unfold maxLen at hlen
  obtain ⟨r, hr⟩ : ∃ r, chkT s.xs = r := ⟨_, rfl⟩
  rw [hr]
  by_cases h0 : s.xs.length = 0
  · have hr0 : (5 : Int) = r := by rw [← hr, chkT, if_pos h0]
    subst hr0
    rw [h0]
    clear hr h0 hlen
    go_enter Tryd.func17, Tryd.ntmps17
    go_wp2_with fail
    go_ret
    exact ⟨rfl, by (repeat (first | with_reducible exact Below.refl _ _ | with_reducible assumption | (with_reducible refine Below.drew ?_) | (with_reducible refine Below.manyDrew ?_ _) | ((with_reducible refine Below.alloc ?_ ?_ _); rotate_left; (focus (first | omega | (dsimp only; omega) | (simp; done) | (simp; omega)))) | ((with_reducible refine Below.setCell ?_ ?_ _); rotate_left; (focus (first | omega | (dsimp only; omega) | (simp; done) | (simp; omega)))) | ((with_reducible refine Below.step ?_ (by assumption) ?_); rotate_left; (focus (first | omega | (dsimp only; omega) | (simp; done) | (simp; omega))))))⟩
  · have h0' : ((s.xs.length : Int) == 0) = false := by rw [beq_eq_false_iff_ne]; omega
    by_cases h6 : 6 < s.xs.length
    · have hr0 : (4 : Int) = r := by rw [← hr, chkT, if_neg h0, if_pos h6]
      subst hr0
      have h6' : (6 : Int) < (s.xs.length : Int) := by omega
      have H0 : Hid (¬ s.xs.length = 0) := h0
      clear hr h0 h6
      go_enter Tryd.func17, Tryd.ntmps17
      go_wp2_with fail
      go_ret
      exact ⟨rfl, by (repeat (first | with_reducible exact Below.refl _ _ | with_reducible assumption | (with_reducible refine Below.drew ?_) | (with_reducible refine Below.manyDrew ?_ _) | ((with_reducible refine Below.alloc ?_ ?_ _); rotate_left; (focus (first | omega | (dsimp only; omega) | (simp; done) | (simp; omega)))) | ((with_reducible refine Below.setCell ?_ ?_ _); rotate_left; (focus (first | omega | (dsimp only; omega) | (simp; done) | (simp; omega)))) | ((with_reducible refine Below.step ?_ (by assumption) ?_); rotate_left; (focus (first | omega | (dsimp only; omega) | (simp; done) | (simp; omega))))))⟩
    · have h6' : ¬ (6 : Int) < (s.xs.length : Int) := by omega
      rw [chkT, if_neg h0, if_neg h6] at hr
      have Hr := hid hr
      have H6 : Hid (¬ 6 < s.xs.length) := h6
      have H0 : Hid (¬ s.xs.length = 0) := h0
      clear hr h0 h6
      go_enter Tryd.func17, Tryd.ntmps17
      go_wp2_with fail
      go_loopw [3] (fun i wr => ∃ k : Nat, k ≤ s.xs.length ∧ i = .int .i64 k ∧ chkTs (s.xs.drop k) = r ∧ Below w.heap.size w wr) (fun i _ => s.xs.length - (intOf i).toNat)
      case atStart => exact ⟨0, Nat.zero_le _, rfl, Hr.out, Below.refl _ _⟩
      case round =>
        obtain ⟨k, hk, rfl, hkr, hbr⟩ := hrel
        have hz0 := hbr.size
        by_cases hlt : k < s.xs.length
        · obtain ⟨b, off, hA, hb, hcells⟩ := hs.row (by omega)
          have hcell := hcells k hlt
          have hin := (hs.each k hlt).stays hbr
          rw [← hbr.cell (p := ⟨b, off + k, none⟩) hb] at hcell
          have hd : s.xs.drop k = s.xs[k] :: s.xs.drop (k + 1) := List.drop_eq_getElem_cons hlt
          rw [hd, chkTs] at hkr
          generalize s.xs[k] = c at *
          have Hkr := hid hkr
          rw [hA]
          clear hA hcells hd hkr
          go_wp2_with fail
          refine (rcache_any c _ hin).mono ?_; rintro e w1 ⟨rfl, hb1⟩; obtain ⟨hc1, hf1⟩ := bcell hb1; have hz1 := hb1.size; (try simp only [World.size_alloc] at hz1); (try simp only [World.size_setCell] at hz1)
          by_cases hc : chkC c.xs = 0
          · have Hkr2 := hid ((if_pos hc).symm.trans Hkr.out)
            have hcb : (chkC c.xs == 0) = true := by rw [hc]; rfl
            clear hc Hkr
            go_wp2_with fail
            go_roundw
            case rel => exact ⟨k + 1, by omega, by go_num, Hkr2.out, by (repeat (first | with_reducible exact Below.refl _ _ | with_reducible assumption | (with_reducible refine Below.drew ?_) | (with_reducible refine Below.manyDrew ?_ _) | ((with_reducible refine Below.alloc ?_ ?_ _); rotate_left; (focus (first | omega | (dsimp only; omega) | (simp; done) | (simp; omega)))) | ((with_reducible refine Below.setCell ?_ ?_ _); rotate_left; (focus (first | omega | (dsimp only; omega) | (simp; done) | (simp; omega)))) | ((with_reducible refine Below.step ?_ (by assumption) ?_); rotate_left; (focus (first | omega | (dsimp only; omega) | (simp; done) | (simp; omega))))))⟩
            case measure => simp [intOf]; omega
          · have hcr : chkC c.xs = r := by rw [← Hkr.out, if_neg hc]
            have hcb : (chkC c.xs == 0) = false := by rw [beq_eq_false_iff_ne]; exact hc
            subst hcr
            clear Hkr Hr hc
            go_wp2_with fail
            go_ret
            exact ⟨rfl, by (repeat (first | with_reducible exact Below.refl _ _ | with_reducible assumption | (with_reducible refine Below.drew ?_) | (with_reducible refine Below.manyDrew ?_ _) | ((with_reducible refine Below.alloc ?_ ?_ _); rotate_left; (focus (first | omega | (dsimp only; omega) | (simp; done) | (simp; omega)))) | ((with_reducible refine Below.setCell ?_ ?_ _); rotate_left; (focus (first | omega | (dsimp only; omega) | (simp; done) | (simp; omega)))) | ((with_reducible refine Below.step ?_ (by assumption) ?_); rotate_left; (focus (first | omega | (dsimp only; omega) | (simp; done) | (simp; omega))))))⟩
        · obtain rfl : k = s.xs.length := by omega
          have hr0 : (0 : Int) = r := by
            rw [List.drop_length] at hkr
            exact hkr
          subst hr0
          clear hkr
          go_wp2_with fail
          go_ret
          exact ⟨rfl, by (repeat (first | with_reducible exact Below.refl _ _ | with_reducible assumption | (with_reducible refine Below.drew ?_) | (with_reducible refine Below.manyDrew ?_ _) | ((with_reducible refine Below.alloc ?_ ?_ _); rotate_left; (focus (first | omega | (dsimp only; omega) | (simp; done) | (simp; omega)))) | ((with_reducible refine Below.setCell ?_ ?_ _); rotate_left; (focus (first | omega | (dsimp only; omega) | (simp; done) | (simp; omega)))) | ((with_reducible refine Below.step ?_ (by assumption) ?_); rotate_left; (focus (first | omega | (dsimp only; omega) | (simp; done) | (simp; omega))))))⟩

end Go.Proofs.YtdocdmpfokdjkaaDoor
