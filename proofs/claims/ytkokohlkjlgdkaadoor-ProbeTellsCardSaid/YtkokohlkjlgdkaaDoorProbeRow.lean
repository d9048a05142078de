/-
  CONTRACT of probe.Row. CONDITIONS: none.
-/
import Derived.Test.YtkokohlkjlgdkaaDoorProbe
import Derived.Test.YtkokohlkjlgdkaaDoorIKit
namespace Go.Proofs.YtkokohlkjlgdkaaDoor
open Go.RowKit
open Go.ChangeShapes Go.WideShapes Go.ChangeAt

def rowL (me n t : Int) (m : Nat) : List Int := (List.range m).map fun i : Nat => atI me n (t + (i : Int))
theorem rowL_succ (me n t : Int) (m : Nat) : rowL me n t (m + 1) = rowL me n t m ++ [atI me n (t + (m : Int))] := by simp [rowL, List.range_succ]
theorem rowL_length (me n t : Int) (m : Nat) : (rowL me n t m).length = m := by simp [rowL]
theorem rowL_getD (me n t : Int) (m i : Nat) (h : i < m) : (rowL me n t m).getD i 0 = atI me n (t + (i : Int)) := by
  rw [getD_get 0 (by rw [rowL_length]; exact h)]
  simp [rowL]
def rowOk (me n t m : Int) : Bool := pchk me n && turnB t && turnB m
theorem rowOk_true {me n t m : Int} : rowOk me n t m = true ↔ pchk me n = true ∧ turnB t = true ∧ turnB m = true := by simp [rowOk, and_assoc]
def rowR (me n t m : Int) : List Int × Int := if rowOk me n t m = true then (rowL me n t m.toNat, 0) else ([], 1)

set_option maxHeartbeats 2000000 in
set_option maxRecDepth 100000 in
theorem row_any (me n t m : Int) (w : World) :
    Calls Tryd.prog 14 #[.int .i64 me, .int .i64 n, .int .i64 t, .int .i64 m] w fun e w' => ∃ r : SlV Int, e = .returned (.tuple #[.slice r.A r.xs.length r.c, errV (rowR me n t m).2]) ∧ r.xs = (rowR me n t m).1 ∧ IntsAt w' r ∧ r.ok ∧ Below w.heap.size w w' := by
  rcases hok : rowOk me n t m with _ | _
  · rw [show rowR me n t m = ([], 1) by simp [rowR, hok]]
    rcases hp : pchk me n with _ | _
    · have Hp := hid hp
      clear hp hok
      go_enter Tryd.func14, Tryd.ntmps14
      go_wp2_with ((go_at_call 41; refine (pcheck_any _ _ _).mono ?_; rintro e w' ⟨rfl, rfl⟩); rw [Hp.out])
      go_ret2
      exact ⟨⟨none, 0, []⟩, rfl, rfl, IntsAt.bare _ _ _, ⟨Nat.zero_le _, Nat.zero_le _⟩, Below.refl _ _⟩
    · rcases ht : turnB t with _ | _
      · have Hp := hid hp
        have Ht := hid ht
        clear hp hok ht
        go_enter Tryd.func14, Tryd.ntmps14
        go_wp2_with (first | ((go_at_call 41; refine (pcheck_any _ _ _).mono ?_; rintro e w' ⟨rfl, rfl⟩); rw [Hp.out]) | ((go_at_call 42; refine (turn_any _ _).mono ?_; rintro e w' ⟨rfl, rfl⟩); rw [Ht.out]))
        go_ret2
        exact ⟨⟨none, 0, []⟩, rfl, rfl, IntsAt.bare _ _ _, ⟨Nat.zero_le _, Nat.zero_le _⟩, Below.refl _ _⟩
      · have hm : turnB m = false := by
          rw [← Bool.not_eq_true]; intro hm
          rw [rowOk_true.2 ⟨hp, ht, hm⟩] at hok
          cases hok
        have Hp := hid hp
        have Ht := hid ht
        have Hm := hid hm
        clear hp hok ht hm
        go_enter Tryd.func14, Tryd.ntmps14
        go_wp2_with (first | ((go_at_call 41; refine (pcheck_any _ _ _).mono ?_; rintro e w' ⟨rfl, rfl⟩); rw [Hp.out]) | ((go_at_call 42; refine (turn_any _ _).mono ?_; rintro e w' ⟨rfl, rfl⟩); first | rw [Ht.out] | rw [Hm.out]))
        go_ret2
        exact ⟨⟨none, 0, []⟩, rfl, rfl, IntsAt.bare _ _ _, ⟨Nat.zero_le _, Nat.zero_le _⟩, Below.refl _ _⟩
  · rw [show rowR me n t m = (rowL me n t m.toNat, 0) by simp [rowR, hok]]
    obtain ⟨hp, ht, hm⟩ := rowOk_true.1 hok
    obtain ⟨h1, h2, h3, h4⟩ := pchk_true.1 hp
    obtain ⟨h5, h6⟩ := turnB_true.1 ht
    obtain ⟨h7, h8⟩ := turnB_true.1 hm
    have Hp := hid hp
    have Ht := hid ht
    have Hm := hid hm
    clear hp hok ht hm
    obtain ⟨m, rfl⟩ := Int.eq_ofNat_of_zero_le h7
    rw [Int.toNat_natCast]
    go_enter Tryd.func14, Tryd.ntmps14
    go_wp2_with (first | ((go_at_call 41; refine (pcheck_any _ _ _).mono ?_; rintro e w' ⟨rfl, rfl⟩); rw [Hp.out]) | ((go_at_call 42; refine (turn_any _ _).mono ?_; rintro e w' ⟨rfl, rfl⟩); first | rw [Ht.out] | rw [Hm.out]))
    go_loopw [10, 28] (fun v i wr => ∃ k : Nat, k ≤ m ∧ i = .int .i64 k ∧ Ow cellI 1 w.heap.size 3 wr v (rowL me n t k) ∧ Below w.heap.size w wr) (fun _ i _ => m - (intOf i).toNat)
    case atStart => exact ⟨0, Nat.zero_le _, rfl, Ow.nil _ _ _ _ _, Below.refl _ _⟩
    case round =>
      obtain ⟨k, hk, rfl, hown, hbr⟩ := hrel
      by_cases hlt : k < m
      · have hz := hbr.size
        have hrl := rowL_length me n t k
        have HS := hid (rowL_succ me n t k)
        have HR := hid hrl
        clear hrl
        generalize hL : rowL me n t k = L at *
        have HL := hid hL
        clear hL
        have hk0 : 0 ≤ t + (k : Int) := by omega
        have hk1 : t + (k : Int) ≤ 120 := by omega
        go_wp2_with (first | ((go_at_call 43; refine (at_any me n (t + k) _ h1 h2 h3 h4 hk0 hk1).mono ?_; rintro e w' ⟨rfl, rfl⟩)) | (at_builtin; refine appI _ w.heap.size _ L (atI me n (t + k)) hown rfl _ _ rfl rfl rfl rfl ?c1 ?c2 ?_))
        case c1 => rw [HR.out]; omega
        case c2 => exact hz
        intro v' w2 hown2 hf2 _
        have hb2 : Below w.heap.size w w2 := hbr.trans (hf2.below0 hz hown.ge)
        rw [← HS.out] at hown2
        clear hf2 hown
        go_wp2_with fail
        go_roundw
        case rel => exact ⟨k + 1, by omega, by go_num, hown2, hb2⟩
        case measure => simp [intOf]; omega
      · obtain rfl : k = m := by omega
        obtain ⟨r, rfl, hrx, hrA, hro, _⟩ := IntsAt.of_ow hown
        have Hrx := hid hrx
        clear hrx hown
        go_wp2_with fail
        go_ret2
        exact ⟨r, rfl, Hrx.out, hrA, hro, hbr⟩
end Go.Proofs.YtkokohlkjlgdkaaDoor
