/-
  CONTRACT of meresame.Ints. CONDITIONS: none.
-/
import Derived.Test.YtepddjfbkjplfaaGreatDoorIKit
import Derived.BigQuiet
import Derived.Deep.QuietTactic
namespace Go.Proofs.YtepddjfbkjplfaaGreatDoor
open Go.RowKit
open Go.ChangeShapes Go.WideShapes Go.ChangeAt

def sameI (a b : List Int) : Bool := decide (a = b)
theorem sameI_true {a b : List Int} : sameI a b = true ↔ a = b := by simp [sameI]
theorem sameI_self (a : List Int) : sameI a a = true := by simp [sameI]

set_option maxHeartbeats 1000000 in
theorem ints_any (s r : SlV Int) (w : World) (hs : IntsAt w s) (hr : IntsAt w r) :
    Calls Tryz.prog 14 #[.slice s.A s.xs.length s.c, .slice r.A r.xs.length r.c] w fun e w' => e = .returned (.bool (sameI s.xs r.xs)) ∧ Below w.heap.size w w' := by
  have hlen := hs.len
  have hlenr := hr.len
  unfold maxLen at hlen hlenr
  obtain ⟨q, hq⟩ : ∃ q, sameI s.xs r.xs = q := ⟨_, rfl⟩
  rw [hq]
  have Hq := hid hq
  clear hq
  by_cases hll : s.xs.length = r.xs.length
  · have hl' : ((s.xs.length : Int) == (r.xs.length : Int)) = true := by rw [hll]; simp
    go_enter Tryz.func14, Tryz.ntmps14
    go_wp2_with fail
    go_loopw [5] (fun i wr => ∃ k : Nat, k ≤ s.xs.length ∧ i = .int .i64 k ∧ s.xs.take k = r.xs.take k ∧ Below w.heap.size w wr) (fun i _ => s.xs.length - (intOf i).toNat)
    case atStart => exact ⟨0, Nat.zero_le _, rfl, by simp, Below.refl _ _⟩
    case round =>
      obtain ⟨k, hk, rfl, hni, hbr⟩ := hrel
      by_cases hlt : k < s.xs.length
      · obtain ⟨b, off, hA, hb, hc⟩ := hs.row (by omega)
        obtain ⟨b', off', hA', hb', hc'⟩ := hr.row (by omega)
        have hx := (hbr.cell (p := ⟨b, off + k, none⟩) hb).trans (hc k hlt)
        have hy := (hbr.cell (p := ⟨b', off' + k, none⟩) hb').trans (hc' k (by omega))
        have hkr : k < r.xs.length := by omega
        have HT := hid (take_snocD 0 hlt)
        have HT' := hid (take_snocD 0 hkr)
        have HN := hid hni
        have HX := hid (getD_get 0 hlt)
        have HY := hid (getD_get 0 hkr)
        have HL := hid hll
        clear hni hc hc' hll hl'
        generalize hxe : s.xs.getD k 0 = x at *
        generalize hye : r.xs.getD k 0 = y at *
        have HXE := hid hxe
        have HYE := hid hye
        rw [hA, hA']
        clear hA hA' hxe hye
        by_cases he : x = y
        · subst he
          go_wp2_with fail
          go_quiet (fail)
          go_wp2_with fail
          go_roundw
          case rel => exact ⟨k + 1, by omega, by go_num, by rw [HT.out, HT'.out, HN.out], by exact Below.manyDrew hbr _⟩
          case measure => simp [intOf]; omega
        · go_wp2_with fail
          go_quiet (fail)
          go_wp2_with fail
          go_ret
          refine ⟨ret_b ?_, by exact Below.manyDrew hbr _⟩
          rw [← Hq.out, eq_comm, ← Bool.not_eq_true, sameI_true]
          intro h
          apply he
          rw [← HXE.out, ← HYE.out, h]
      · obtain rfl : k = s.xs.length := by omega
        have HN : Hid (s.xs = r.xs) := by
          rw [List.take_length, hll, List.take_length] at hni
          exact hni
        clear hni hll hl'
        go_wp2_with fail
        go_ret
        exact ⟨ret_b (by rw [← Hq.out, HN.out, sameI_self]), hbr⟩
  · have hl' : ((s.xs.length : Int) == (r.xs.length : Int)) = false := by rw [beq_eq_false_iff_ne]; omega
    have HL := hid hll
    clear hll
    go_enter Tryz.func14, Tryz.ntmps14
    go_wp2_with fail
    go_ret
    refine ⟨ret_b ?_, Below.refl _ _⟩
    rw [← Hq.out, eq_comm, ← Bool.not_eq_true, sameI_true]
    intro h
    exact HL.out (by rw [h])
end Go.Proofs.YtepddjfbkjplfaaGreatDoor
