/-
  CONTRACT of the reference's Points. CONDITIONS: none.
-/
import Derived.Test.YtepddjfbkjplfaaGreatDoorRtLaw
import Derived.Test.YtepddjfbkjplfaaGreatDoorRHash
namespace Go.Proofs.YtepddjfbkjplfaaGreatDoor
open Go.RowKit
open Go.ChangeShapes Go.WideShapes Go.ChangeAt

theorem hitB_no {n at_ : Int} {m : Nat} (h : ∀ i, i < m → ¬ (hashP n i : Int) = at_) : hitB n at_ m = false := by
  rw [← Bool.not_eq_true, hitB_true]
  rintro ⟨i, hi, he⟩
  exact h i hi he
set_option maxHeartbeats 8000000 in
set_option maxRecDepth 100000 in
theorem pointsR_any (s : SlV Int) (m : Nat) (w : World) (hs : IntsAt w s) (hm : m ≤ 8) :
    Calls Tryz.prog 5 #[.slice s.A s.xs.length s.c, .int .i64 m] w fun e w' => ∃ v, e = .returned v ∧ Ow Pt.cells 2 w.heap.size 44 w' v (refP s.xs m 256) ∧ Below w.heap.size w w' := by
  have HK := hid (fun W (hW : Below w.heap.size w W) => hs.stays0 hW)
  clear hs
  go_enter Tryz.func5, Tryz.ntmps5
  go_wp2_with fail
  go_loopw [5, 6] (fun v i wr => ∃ j : Nat, j ≤ 256 ∧ i = .int .i64 j ∧ Ow Pt.cells 2 w.heap.size 44 wr v (refP s.xs m j) ∧ Below w.heap.size w wr) (fun _ i _ => 256 - (intOf i).toNat)
  case atStart => exact ⟨0, Nat.zero_le _, rfl, Ow.nil _ _ _ _ _, Below.refl _ _⟩
  case round =>
    obtain ⟨j, hj, rfl, hO, hbr⟩ := hrel
    obtain ⟨wj, rfl⟩ : ∃ wj : World, wj = wr := ⟨_, rfl⟩
    have HO := hid hO
    have Hbr := hid hbr
    clear hO hbr
    by_cases hlt : j < 256
    · have hjl : (j : Int) < 256 := by omega
      have HLj := hid (refP_length s.xs m j)
      go_wp2_with fail
      go_loopw [5, 7] (fun v i wr => ∃ (vk : Value) (n : Nat), v = vk ∧ n ≤ 6 ∧ i = .int .i64 n ∧ Ow Pt.cells 2 w.heap.size 44 wr v (refP s.xs m j ++ rowP s.xs m j n) ∧ Below w.heap.size w wr) (fun _ i _ => 6 - (intOf i).toNat)
      case atStart => exact ⟨_, 0, rfl, Nat.zero_le _, rfl, by simpa [rowP] using HO.out, Hbr.out⟩
      case round =>
        clear HO Hbr
        obtain ⟨vk, n, hvk, hn, rfl, hO, hbk⟩ := hrel
        obtain rfl := hvk.symm
        obtain ⟨wk, rfl⟩ : ∃ wk : World, wk = wr := ⟨_, rfl⟩
        have HO := hid hO
        have Hbk := hid hbk
        have hzk := hbk.size
        clear hO
        by_cases hn6 : n < 6
        · have hnl : (n : Int) < 6 := by omega
          have HIn := hid (in_any s n wk (HK.out wk hbk))
          have hlen : (refP s.xs m j ++ rowP s.xs m j n).length ≤ 2000 := by
            have h1 := rowP_length s.xs m j n
            have h2 := HLj.out
            rw [List.length_append]
            omega
          have hsucc := rowP_succ s.xs m j n
          generalize hL : refP s.xs m j ++ rowP s.xs m j n = L at *
          rcases hin : inL (n : Int) s.xs with _ | _
          · have HN := hid (show refP s.xs m j ++ rowP s.xs m j (n + 1) = L by rw [hsucc, hitP, hin, Bool.false_and, if_neg (by decide), List.append_nil, hL])
            rw [hin] at HIn
            clear hsucc hL hin hbk
            go_wp2_with fail
            refine HIn.out.mono ?_
            rintro e w2 ⟨rfl, hw2⟩
            obtain rfl : wk = w2 := hw2
            clear HIn
            go_wp2_with fail
            go_loopw [5, 9] (fun u i wr => u = vk ∧ i = .int .i64 0 ∧ wr = wk) (fun _ _ _ => 0)
            case atStart => exact ⟨rfl, rfl, rfl⟩
            case round =>
              obtain ⟨rfl, rfl, hwr⟩ := hrel
              obtain rfl : wk = wr := hwr.symm
              by_cases h0m : (0 : Int) < (m : Int)
              · go_wp2_with fail
                go_roundw
                case rel => exact ⟨_, n + 1, rfl, by omega, by go_num, by rw [HN.out]; exact HO.out, Hbk.out⟩
                case measure => simp [intOf]; omega
              · go_wp2_with fail
                go_roundw
                case rel => exact ⟨_, n + 1, rfl, by omega, by go_num, by rw [HN.out]; exact HO.out, Hbk.out⟩
                case measure => simp [intOf]; omega
          · have HN := hid (show ∀ b, hitB n j m = b → refP s.xs m j ++ rowP s.xs m j (n + 1) = if b = true then L ++ [⟨j, n⟩] else L from fun b hb => by
              rw [hsucc, hitP, hin, hb, Bool.true_and, ← List.append_assoc, hL]
              cases b <;> simp)
            rw [hin] at HIn
            clear hsucc hL hin
            go_wp2_with fail
            refine HIn.out.mono ?_
            rintro e w2 ⟨rfl, hw2⟩
            obtain rfl : wk = w2 := hw2
            clear HIn
            go_wp2_with fail
            go_loopw [5, 9] (fun u i wr => u = vk ∧ ∃ q : Nat, q ≤ m ∧ i = .int .i64 q ∧ (∀ i, i < q → ¬ (hashP n i : Int) = j) ∧ Below wk.heap.size wk wr) (fun _ i _ => m - (intOf i).toNat)
            case atStart => exact ⟨rfl, 0, Nat.zero_le _, rfl, fun i hi => by omega, Below.refl _ _⟩
            case round =>
              obtain ⟨rfl, q, hq, rfl, hall, hbq⟩ := hrel
              obtain ⟨wq, rfl⟩ : ∃ wq : World, wq = wr := ⟨_, rfl⟩
              have Hbq := hid hbq
              have Hall := hid hall
              have hzq := hbq.size
              clear hall hbk
              by_cases hqm : q < m
              · have hql : (q : Int) < (m : Int) := by omega
                have HP := hid (rpair_any n q (by omega) (by omega) wq)
                have hsuc := hid (show ∀ h : Nat, hashL (pairT n q) = h → hashP n q = h % 256 from fun h e => by unfold hashP; rw [e])
                generalize hh : hashL (pairT (n : Int) (q : Int)) = h at *
                have Hh := hid (hsuc.out h rfl)
                clear hh hsuc hbq
                by_cases hit : ((h % 256 : Nat) : Int) = (j : Int)
                · have HNx := hid (HN.out true (hitB_true.2 ⟨q, hqm, by rw [Hh.out]; exact hit⟩))
                  have hit' : ((h : Int) % 256 == (j : Int)) = true := by rw [beq_iff_eq]; omega
                  have hit2 : ((h : Int).tmod 256 == (j : Int)) = true := by rw [beq_iff_eq, Int.tmod_eq_emod_of_nonneg (by omega)]; omega
                  clear HN
                  go_wp2_with fail
                  refine HP.out.mono ?_
                  rintro e w3 ⟨rfl, hb3⟩
                  have hbk3 := Below.step Hbq.out hb3 hzq
                  have HO3 := hid (HO.out.belowS hbk3)
                  have Hb3 := hid (Below.step Hbk.out hbk3 hzk)
                  have hz3 := hbk3.size
                  clear hb3 hbk3 HP
                  go_wp2_with (at_builtin; refine appPt _ w.heap.size _ L (j : Int) (n : Int) HO3.out rfl _ _ rfl rfl rfl ?_ ?_ ?_ ?_)
                  any_goals (first | (with_reducible rfl) | omega | exact World.size_alloc _ _ | (show _ ≤ _; rw [World.size_alloc]; omega))
                  intro v8 w8 hO8 f8 o8
                  have Hb8 := hid (Hb3.out.trans (f8.below0 (by omega) (fun i hi => HO3.out.ge _ hi)))
                  have HO8 := hid hO8
                  clear hO8 f8 o8
                  go_wp2_with fail
                  go_roundw
                  case rel => exact ⟨_, n + 1, rfl, by omega, by go_num, by rw [HNx.out]; exact HO8.out, Hb8.out⟩
                  case measure => simp [intOf]; omega
                · have Hnx := hid (show ∀ i, i < q + 1 → ¬ (hashP n i : Int) = j from fun i hi => by
                    by_cases e : i = q
                    · subst e; rw [Hh.out]; exact hit
                    · exact Hall.out i (by omega))
                  have hit' : ((h : Int) % 256 == (j : Int)) = false := by rw [beq_eq_false_iff_ne]; omega
                  have hit2 : ((h : Int).tmod 256 == (j : Int)) = false := by rw [beq_eq_false_iff_ne, Int.tmod_eq_emod_of_nonneg (by omega)]; omega
                  go_wp2_with fail
                  refine HP.out.mono ?_
                  rintro e w3 ⟨rfl, hb3⟩
                  have Hb3 := hid (Below.step Hbq.out hb3 hzq)
                  clear hb3 HP
                  go_wp2_with fail
                  go_roundw
                  case rel => exact ⟨rfl, q + 1, by omega, by go_num, Hnx.out, Hb3.out⟩
                  case measure => simp [intOf]; omega
              · obtain rfl : q = m := by omega
                have HNx := hid (HN.out false (hitB_no Hall.out))
                have HO3 := hid (HO.out.belowS hbq)
                have Hb3 := hid (Below.step Hbk.out hbq hzk)
                clear HN hbq
                go_wp2_with fail
                go_roundw
                case rel => exact ⟨_, n + 1, rfl, by omega, by go_num, by rw [HNx.out]; exact HO3.out, Hb3.out⟩
                case measure => simp [intOf]; omega
        · obtain rfl : n = 6 := by omega
          rw [← refP_succ] at HO
          clear hbk
          go_wp2_with fail
          go_roundw
          case rel => exact ⟨j + 1, by omega, by go_num, HO.out, Hbk.out⟩
          case measure => simp [intOf]; omega
    · obtain rfl : j = 256 := by omega
      go_wp2_with fail
      go_ret
      exact ⟨_, rfl, HO.out, Hbr.out⟩
end Go.Proofs.YtepddjfbkjplfaaGreatDoor
