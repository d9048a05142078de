/-
  CONTRACTS of the reference's gossip: Calls (the fault), Play (who knows whose). CONDITIONS: none.
-/
import Derived.Test.YtdocdmpfokdjkaaDoorGossipBr
import Derived.BigQuiet
import Derived.Deep.QuietTactic
import Derived.Deep.MidRow
namespace Go.Proofs.YtdocdmpfokdjkaaDoor
open Go.RowKit
open Go.ChangeShapes Go.WideShapes Go.ChangeAt

theorem chkCall2 {n : Int} {c : List Int} (h2 : c.length = 2) : chkCall n c = if (c.getD 0 0 < 0 ∨ n ≤ c.getD 0 0) ∨ (c.getD 1 0 < 0 ∨ n ≤ c.getD 1 0) then 1 else if c.getD 0 0 = c.getD 1 0 then 3 else 0 := by
  match c, h2 with
  | [x, y], _ =>
    have e0 : [x, y].getD 0 0 = x := rfl
    have e1 : [x, y].getD 1 0 = y := rfl
    have hb : [x, y].any (outB n) = true ↔ (x < 0 ∨ n ≤ x) ∨ (y < 0 ∨ n ≤ y) := by simp [outB]
    rw [chkCall, if_pos (show [x, y].length = 2 from rfl), e0, e1]
    by_cases h : (x < 0 ∨ n ≤ x) ∨ (y < 0 ∨ n ≤ y)
    · rw [if_pos h, if_pos (hb.2 h)]
    · rw [if_neg h, if_neg (fun e => h (hb.1 e))]

set_option maxHeartbeats 4000000 in
theorem rcalls_any (n : Int) (s : SlV (SlV Int)) (w : World) (hs : IntssAt w s) :
    Calls Tryd.prog 6 #[.int .i64 n, .slice s.A s.xs.length s.c] w fun e w' => e = .returned (.int .i64 (chkG n s.xs)) ∧ Below w.heap.size w w' := by
  have hlen := hs.len
  unfold maxLen at hlen
  obtain ⟨r, hr⟩ : ∃ r, chkG n s.xs = r := ⟨_, rfl⟩
  rw [hr]
  unfold chkG at hr
  rcases hn : nodesB n with _ | _
  · rw [if_neg (by rw [hn]; decide)] at hr
    subst hr
    rcases nodesB_false.1 hn with h | h
    all_goals
      clear hn
      go_enter Tryd.func6, Tryd.ntmps6
      go_wp2_with fail
      go_ret
      exact ⟨rfl, Below.refl _ _⟩
  · rw [if_pos hn] at hr
    obtain ⟨h1, h6⟩ := nodesB_true.1 hn
    clear hn
    by_cases h40 : 40 < s.xs.length
    · rw [if_pos h40] at hr
      subst hr
      have h40' : (40 : Int) < (s.xs.length : Int) := by omega
      clear h40
      go_enter Tryd.func6, Tryd.ntmps6
      go_wp2_with fail
      go_ret
      exact ⟨rfl, Below.refl _ _⟩
    · rw [if_neg h40] at hr
      have h40' : ¬ (40 : Int) < (s.xs.length : Int) := by omega
      have Hr := hid hr
      have Hs := hid hs
      clear hr hs h40
      go_enter Tryd.func6, Tryd.ntmps6
      go_wp2_with fail
      go_loopw [5] (fun i wr => ∃ k d : Nat, k ≤ s.xs.length ∧ i = .int .i64 k ∧ chkCalls n (s.xs.drop k) = r ∧ wr = w.drewN d) (fun i _ => s.xs.length - (intOf i).toNat)
      case atStart => exact ⟨0, 0, Nat.zero_le _, rfl, Hr.out, rfl⟩
      case round =>
        obtain ⟨k, d, hk, rfl, hkr, rfl⟩ := hrel
        by_cases hlt : k < s.xs.length
        · obtain ⟨b, off, hA, hb, hcells⟩ := Hs.out.row (by omega)
          have hcell := hcells k hlt
          have hin := Hs.out.each k hlt
          have hd : s.xs.drop k = s.xs[k] :: s.xs.drop (k + 1) := List.drop_eq_getElem_cons hlt
          rw [hd, chkCalls] at hkr
          generalize s.xs[k] = c at *
          have Hkr := hid hkr
          rw [hA]
          clear hA hcells hd hkr
          by_cases h2 : c.xs.length = 2
          · obtain ⟨b2, off2, hA2, hb2, hcells2⟩ := hin.row (by omega)
            have hc0 := hcells2 0 (by omega)
            have hc1 := hcells2 1 (by omega)
            rw [Nat.add_zero] at hc0
            have hcc := chkCall2 (n := n) h2
            have h2' : (c.xs.length : Int) = 2 := by omega
            have h20 : (0 : Int) < (c.xs.length : Int) := by omega
            have h21 : (1 : Int) < (c.xs.length : Int) := by omega
            have h2b : ((c.xs.length : Int) != 2) = false := by rw [h2']; rfl
            generalize c.xs.getD 0 0 = x0 at *
            generalize c.xs.getD 1 0 = x1 at *
            rw [hA2] at hcell
            have Hcc := hid hcc
            clear hcc hcells2 hin hA2 h2
            rcases (show x0 < 0 ∨ (0 ≤ x0 ∧ n ≤ x0) ∨ (0 ≤ x0 ∧ x0 < n ∧ x1 < 0) ∨ (0 ≤ x0 ∧ x0 < n ∧ 0 ≤ x1 ∧ n ≤ x1) ∨ (0 ≤ x0 ∧ x0 < n ∧ 0 ≤ x1 ∧ x1 < n ∧ x0 = x1) ∨ (0 ≤ x0 ∧ x0 < n ∧ 0 ≤ x1 ∧ x1 < n ∧ ¬ x0 = x1) by omega) with h | ⟨h, h'⟩ | ⟨h, h', h''⟩ | ⟨h, h', h'', h3⟩ | ⟨h, h', h'', h3, h4⟩ | ⟨h, h', h'', h3, h4⟩
            iterate 4
              · have h1r : (1 : Int) = r := by
                  rw [← Hkr.out, show chkCall n c.xs = 1 from by rw [Hcc.out, if_pos (by omega)], if_neg (by decide)]
                subst h1r
                go_wp2_with fail
                go_ret
                exact ⟨rfl, Below.manyDrew (Below.refl _ _) _⟩
            · have h3r : (3 : Int) = r := by
                rw [← Hkr.out, show chkCall n c.xs = 3 from by rw [Hcc.out, if_neg (by omega), if_pos h4], if_neg (by decide)]
              subst h3r
              subst h4
              have hxx : (x0 == x0) = true := beq_self_eq_true x0
              go_wp2_with fail
              go_quiet (fail)
              go_wp2_with fail
              go_ret
              exact ⟨rfl, Below.manyDrew (Below.manyDrew (Below.refl _ _) _) _⟩
            · have hrr : chkCalls n (s.xs.drop (k + 1)) = r := by
                rw [← Hkr.out, show chkCall n c.xs = 0 from by rw [Hcc.out, if_neg (by omega), if_neg h4], if_pos rfl]
              have Hrr := hid hrr
              have hxx : (x0 == x1) = false := by simpa using h4
              clear hrr h4
              go_wp2_with fail
              go_quiet (fail)
              go_wp2_with fail
              go_roundw
              case rel => exact ⟨k + 1, _, by omega, by go_num, Hrr.out, by first | rfl | exact World.drewN_drewN _ _ _⟩
              case measure => simp [intOf]; omega
          · have hcc : chkCall n c.xs = 3 := by rw [chkCall, if_neg h2]
            have hr3 : (3 : Int) = r := by rw [← Hkr.out, hcc, if_neg (by decide)]
            subst hr3
            have h2' : ((c.xs.length : Int) == 2) = false := by
              rw [beq_eq_false_iff_ne]
              omega
            clear hcc h2
            go_wp2_with fail
            go_ret
            exact ⟨rfl, Below.manyDrew (Below.refl _ _) _⟩
        · obtain rfl : k = s.xs.length := by omega
          have hr0 : (0 : Int) = r := by
            rw [List.drop_length] at hkr
            exact hkr
          subst hr0
          clear hkr
          go_wp2_with fail
          go_ret
          exact ⟨rfl, Below.manyDrew (Below.refl _ _) _⟩
end Go.Proofs.YtdocdmpfokdjkaaDoor
