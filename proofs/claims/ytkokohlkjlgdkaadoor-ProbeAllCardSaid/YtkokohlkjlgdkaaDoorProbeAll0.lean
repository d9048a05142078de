/-
  THE WALK of merelaw2.ProbeAll where the row of turns is right. CONDITIONS: errors.errorType as the program's text lays it (tied by the card).
-/
import Derived.Test.YtkokohlkjlgdkaaDoorProbeLaw
import Derived.Test.YtkokohlkjlgdkaaDoorProbeRow
import Derived.Test.YtkokohlkjlgdkaaDoorIn
import Derived.Test.YtkokohlkjlgdkaaDoorDoor
import Derived.BigQuiet
import Derived.Deep.QuietTactic
namespace Go.Proofs.YtkokohlkjlgdkaaDoor
open Go.RowKit
open Go.ChangeShapes Go.WideShapes Go.ChangeAt

theorem IntsAt.takeK {w : World} {s : SlV Int} (h : IntsAt w s) (k : Nat) : IntsAt w ⟨s.A, s.c, s.xs.take k⟩ := ⟨fun h0 => by
    have hl : (s.xs.take k).length ≤ s.xs.length := List.length_take_le' ..
    obtain ⟨b, off, h1, h2, h3⟩ := h.row (by simp only at h0; omega)
    refine ⟨b, off, h1, h2, fun i hi => ?_⟩
    simp only at hi
    have hi' : i < s.xs.length := by omega
    rw [h3 i hi', getD_get _ hi', getD_get _ hi, List.getElem_take], Nat.le_trans (List.length_take_le' ..) h.len⟩
theorem in_take (s : SlV Int) (k : Nat) (hk : k ≤ s.xs.length) (n : Int) (w : World) (hs : IntsAt w s) :
    Calls Tryd.prog 16 #[.slice s.A k s.c, .int .i64 n] w fun e w' => e = .returned (.bool (inL n (s.xs.take k))) ∧ w' = w := by
  have h := in_any ⟨s.A, s.c, s.xs.take k⟩ n w (hs.takeK k)
  rw [List.length_take, Nat.min_eq_left hk] at h
  exact h.mono fun _ _ ⟨a, b⟩ => ⟨a, b.symm⟩
theorem row_once {me n t : Int} {m i : Nat} (h1 : 2 ≤ n) (h2 : n ≤ 6) (hm : (m : Int) = n - 1) (hi : i < m) : inL (atI me n (t + i)) ((rowL me n t m).take i) = false := by
  rw [inL_false]
  intro hx
  obtain ⟨j, hj, he⟩ := List.getElem_of_mem hx
  rw [List.length_take, rowL_length] at hj
  rw [List.getElem_take] at he
  have hj' : j < m := by omega
  have := rowL_getD me n t m j hj'
  rw [getD_get 0 (by rw [rowL_length]; exact hj'), he] at this
  exact atI_apart (me := me) (t := t) (i := j) (j := i) h1 h2 (by omega) (by omega) (by omega) this.symm

set_option maxHeartbeats 4000000 in
set_option maxRecDepth 100000 in
theorem probeAll_ok (me n t : Int) (w : World) (hgl : Gl w) (h1 : 2 ≤ n) (h2 : n ≤ 6) (hok : rowOk me n t (n - 1) = true) :
    Calls Tryd.prog 5 #[.int .i64 me, .int .i64 n, .int .i64 t] w fun e w' => e = .returned (.bool true) ∧ Below w.heap.size w w' := by
  have T0 : Hid (targetR 2 4 1 = (0, 0)) := hid (by decide)
  obtain ⟨hp, ht, hm⟩ := rowOk_true.1 hok
  obtain ⟨_, _, h3, h4⟩ := pchk_true.1 hp
  obtain ⟨h5, h6⟩ := turnB_true.1 ht
  obtain ⟨m, hmn⟩ := Int.eq_ofNat_of_zero_le (show 0 ≤ n - 1 by omega)
  have R0 : Hid (rowR me n t (n - 1) = (rowL me n t m, 0)) := hid (by rw [rowR, if_pos hok, hmn, Int.toNat_natCast])
  have hrow : ∀ i : Nat, i < m → Hid ((rowL me n t m).getD i 0 = atI me n (t + i)) ∧ Hid (inL (atI me n (t + i)) ((rowL me n t m).take i) = false) ∧ Hid (whenR me n (atI me n (t + i)) = ((t + i) % (n - 1), 0)) ∧ (0 ≤ atI me n (t + i) ∧ atI me n (t + i) < n) ∧ Hid (atI me n (t + i) ≠ me) := fun i hi => by
    have a1 := atI_in (me := me) (t := t + i) h1 h2
    have a2 := atI_ne (t := t + i) h1 h2 h3 h4
    exact ⟨hid (rowL_getD me n t m i hi), hid (row_once h1 h2 hmn.symm hi), hid (by rw [whenR, if_pos hp, if_pos a1, if_neg a2, atI_when h1 h2 h3 h4]), a1, hid a2⟩
  have Hrow := hid hrow
  have HL := hid (rowL_length me n t m)
  have Hmn := hid hmn
  clear hrow hok hp ht hm hmn
  go_enter Tryd.func5, Tryd.ntmps5
  go_wp2_with fail
  refine (target_any 2 4 1 _).mono ?_
  rw [T0.out, show errV 0 = .nilIface from rfl]
  rintro e w1 ⟨rfl, rfl⟩
  go_wp2_with fail
  refine (row_any me n t (n - 1) _).mono ?_
  rw [R0.out, show errV 0 = .nilIface from rfl]
  rintro e w1 ⟨r, rfl, hr, hrA, ⟨hro, _⟩, hb1⟩
  simp only at hr
  have hrl : (r.xs.length : Int) = n - 1 := by rw [hr, HL.out, Hmn.out]
  have hrl' : r.xs.length = m := by rw [hr, HL.out]
  have Hrl := hid hrl'
  have Hr := hid hr
  clear hr hrl'
  go_wp2_with fail
  go_loopw [13] (fun i wr => ∃ k : Nat, k ≤ m ∧ i = .int .i64 k ∧ Below w.heap.size w wr ∧ IntsAt wr r) (fun i _ => m - (intOf i).toNat)
  case atStart => exact ⟨0, Nat.zero_le _, rfl, hb1, hrA⟩
  case round =>
    obtain ⟨k, hk, rfl, hbr, hrr⟩ := hrel
    have hrl2 := Hrl.out
    by_cases hlt : k < m
    · obtain ⟨b, off, hA, hb, hc⟩ := hrr.row (by omega)
      obtain ⟨q1, q2, q3, ⟨q4, q5⟩, q6⟩ := Hrow.out k hlt
      have hx := hc k (by omega)
      rw [Hr.out, q1.out] at hx
      have Q2 : Hid (inL (atI me n (t + k)) (r.xs.take k) = false) := hid (by rw [Hr.out]; exact q2.out)
      have hkr : (k : Int) ≤ r.xs.length := by omega
      have hkr' : k ≤ r.xs.length := by omega
      have hkc : (k : Int) ≤ r.c := by omega
      have hkc' : k ≤ r.c := by omega
      have hlt' : k < r.xs.length := by omega
      have q6' := q6.out
      have hn0 : ¬ n - 1 = 0 := by omega
      generalize atI me n (t + k) = x at *
      have hxm : (x == me) = false := by rw [beq_eq_false_iff_ne]; exact q6'
      have hIn : ∀ W, IntsAt W r → Calls Tryd.prog 16 #[.slice r.A k r.c, .int .i64 x] W fun e w' => e = .returned (.bool false) ∧ w' = W := fun W hW => (in_take r k hkr' x W hW).mono fun _ _ ⟨a, b⟩ => ⟨by rw [a, Q2.out], b⟩
      have HIn := hid hIn
      rw [hA] at hIn
      have HI2 := hid hIn
      rw [hA]
      clear hc q1 q2 hrl2 hA hIn q6
      go_wp2_with fail
      go_quiet ((go_at_call 16; exact Calls.quiet_of_same (HI2.out (World.drewN wr _) (hrr.drewN _))))
      go_wp2_with fail
      refine (when_any me n x _).mono ?_
      rw [q3.out, show errV 0 = .nilIface from rfl]
      rintro e w1 ⟨rfl, rfl⟩
      go_wp2_with fail
      go_roundw
      case rel => exact ⟨k + 1, by omega, by go_num, by exact Below.manyDrew hbr _, hrr.drewN _⟩
      case measure => simp [intOf]; omega
    · obtain rfl : k = m := by omega
      go_wp2_with fail
      go_ret
      exact ⟨rfl, hbr⟩
end Go.Proofs.YtkokohlkjlgdkaaDoor
