/-
  CONTRACT of mereref1.In. CONDITIONS: none.
-/
import Derived.Test.YtneilklimpdeoaaGreatDoorIKit
namespace Go.Proofs.YtneilklimpdeoaaGreatDoor
open Go.RowKit
open Go.ChangeShapes Go.WideShapes Go.ChangeAt

def inL (n : Int) (l : List Int) : Bool := decide (n ∈ l)
theorem inL_true {n : Int} {l : List Int} : inL n l = true ↔ n ∈ l := by simp [inL]
theorem inL_false {n : Int} {l : List Int} : inL n l = false ↔ n ∉ l := by simp [inL]

set_option maxHeartbeats 400000 in
theorem in_any (s : SlV Int) (n : Int) (w : World) (hs : IntsAt w s) :
    Calls Tryz.prog 61 #[.slice s.A s.xs.length s.c, .int .i64 n] w fun e w' => e = .returned (.bool (inL n s.xs)) ∧ w = w' := by
  have hlen := hs.len
  unfold maxLen at hlen
  go_enter Tryz.func61, Tryz.ntmps61
  go_wp2
  go_loop [5] (fun i => ∃ k : Nat, k ≤ s.xs.length ∧ i = .int .i64 k ∧ n ∉ s.xs.take k) (fun i => s.xs.length - (intOf i).toNat)
  case atStart => exact ⟨0, Nat.zero_le _, rfl, by simp⟩
  case round =>
    obtain ⟨k, hk, rfl, hni⟩ := hrel
    by_cases hlt : k < s.xs.length
    · obtain ⟨b, off, hA, hb, hc⟩ := hs.row (by omega)
      have hx := hc k hlt
      have htk := take_snocD 0 hlt
      have hmem := getD_memD 0 hlt
      have HT := hid htk
      have HM := hid hmem
      have HN := hid hni
      clear htk hmem hni hc
      generalize s.xs.getD k 0 = x at *
      rw [hA]
      clear hA
      by_cases he : x = n
      · subst he
        go_wp2
        go_ret
        exact ⟨ret_b (by rw [inL_true.2 HM.out]), rfl⟩
      · go_wp2
        go_round
        case rel => exact ⟨k + 1, by omega, by go_num, by rw [HT.out]; simp; exact ⟨HN.out, fun h => he h.symm⟩⟩
        case measure => simp [intOf]; omega
    · obtain rfl : k = s.xs.length := by omega
      rw [List.take_length] at hni
      have HN := hid hni
      clear hni
      go_wp2
      go_ret
      exact ⟨ret_b (by rw [inL_false.2 HN.out]), rfl⟩
end Go.Proofs.YtneilklimpdeoaaGreatDoor
