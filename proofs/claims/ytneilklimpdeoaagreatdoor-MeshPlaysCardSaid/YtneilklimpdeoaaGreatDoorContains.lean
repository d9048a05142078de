/-
  THE CONTRACTS of slices.Index and Contains at []int. CONDITIONS: none.
-/
import Derived.Test.YtneilklimpdeoaaGreatDoorIn
namespace Go.Proofs.YtneilklimpdeoaaGreatDoor
open Go.RowKit
open Go.ChangeShapes Go.WideShapes Go.ChangeAt

def IdxR (n : Int) (l : List Int) (w : World) (e : Ending) (w' : World) : Prop := ∃ r : Int, e = .returned (.int .i64 r) ∧ decide (0 ≤ r) = inL n l ∧ w = w'
set_option maxHeartbeats 400000 in
theorem sidx_any (s : SlV Int) (n : Int) (w : World) (hs : IntsAt w s) :
    Calls Tryz.prog 74 #[.slice s.A s.xs.length s.c, .int .i64 n] w (IdxR n s.xs w) := by
  have hlen := hs.len
  unfold maxLen at hlen
  go_enter Tryz.func74, Tryz.ntmps74
  go_wp2
  go_loop [8] (fun i => ∃ k : Nat, k ≤ s.xs.length ∧ i = .int .i64 k ∧ n ∉ s.xs.take k) (fun i => s.xs.length - (intOf i).toNat)
  case atStart => exact ⟨0, Nat.zero_le _, rfl, by simp⟩
  case round =>
    obtain ⟨k, hk, rfl, hno⟩ := hrel
    by_cases hlt : k < s.xs.length
    · obtain ⟨b, off, hA, hb, hc⟩ := hs.row (by omega)
      have hcell := hc k hlt
      have htk := take_snocD 0 hlt
      have hm := getD_memD 0 hlt
      have Hno := hid hno
      have Htk := hid htk
      have Hm := hid hm
      obtain ⟨x, hx⟩ : ∃ x, s.xs.getD k 0 = x := ⟨_, rfl⟩
      rw [hx] at hcell Htk Hm
      rw [hA]
      clear hc hA hno htk hm hx
      by_cases he : n = x
      · have hb : (n == x) = true := by rw [he]; simp
        have Hr := hid (show inL n s.xs = true by rw [inL_true, he]; exact Hm.out)
        clear he
        go_wp2
        go_ret
        exact ⟨k, rfl, by rw [Hr.out]; simp, rfl⟩
      · have hb : (n == x) = false := by rw [beq_eq_false_iff_ne]; exact he
        have He := hid he
        clear he
        go_wp2
        go_round
        case rel => exact ⟨k + 1, by omega, by go_num, by rw [Htk.out, List.mem_append, List.mem_singleton, not_or]; exact ⟨Hno.out, He.out⟩⟩
        case measure => simp [intOf]; omega
    · obtain rfl : k = s.xs.length := by omega
      have Hr := hid (show inL n s.xs = false by rw [inL_false]; rw [List.take_length] at hno; exact hno)
      clear hno
      go_wp2
      go_ret
      exact ⟨-1, rfl, by rw [Hr.out]; rfl, rfl⟩
theorem contains_any (s : SlV Int) (n : Int) (w : World) (hs : IntsAt w s) :
    Calls Tryz.prog 63 #[.slice s.A s.xs.length s.c, .int .i64 n] w fun e w' => e = .returned (.bool (inL n s.xs)) ∧ w = w' := by
  have HI := hid (sidx_any s n w hs)
  go_enter Tryz.func63, Tryz.ntmps63
  go_wp2_with fail
  refine HI.out.mono ?_
  rintro e w' ⟨r, rfl, hr, rfl⟩
  have Hr := hid hr
  clear hr
  go_wp2_with fail
  go_ret
  exact ⟨by show Ending.returned (.bool (decide (0 ≤ r))) = _; rw [Hr.out], rfl⟩

end Go.Proofs.YtneilklimpdeoaaGreatDoor
