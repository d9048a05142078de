/-
  CONTRACTS of the references mereref1.Cache, mereref1.Get: plain functions. CONDITIONS: none.
-/
import Derived.Test.YtneilklimpdeoaaGreatDoorCLaw
import Derived.Test.YtneilklimpdeoaaGreatDoorCCheck
import Derived.Test.YtneilklimpdeoaaGreatDoorREntry
namespace Go.Proofs.YtneilklimpdeoaaGreatDoor
open Go.RowKit
open Go.ChangeShapes Go.WideShapes Go.ChangeAt

/-! ### mereref1.Get -/
def rget (l : List E) (k : Int) : E × Bool := match lk l k with | some e => (e, true) | none => (E.zero, false)
theorem rget_nil (k : Int) : rget [] k = (E.zero, false) := rfl
theorem rget_cons (e : E) (r : List E) (k : Int) : rget (e :: r) k = if e.key = k then (e, true) else rget r k := by
  unfold rget
  rw [lk_cons]
  by_cases h : e.key = k
  · rw [if_pos h, if_pos h]
  · rw [if_neg h, if_neg h]

set_option maxHeartbeats 2000000 in
theorem rget_any (s : SlV E) (key : Int) (w : World) (hs : EntriesAt w s) :
    Calls Tryz.prog 27 #[.slice s.A s.xs.length s.c, .int .i64 key] w fun e w' => e = .returned (.tuple #[(rget s.xs key).1.val, .bool (rget s.xs key).2]) ∧ Below w.heap.size w w' := by
  have hlen := hs.len
  unfold maxLen at hlen
  generalize hr : rget s.xs key = r
  have Hr := hid hr
  clear hr
  go_enter Tryz.func27, Tryz.ntmps27
  go_wp2_with fail
  go_loopw [6] (fun i wr => ∃ k : Nat, k ≤ s.xs.length ∧ i = .int .i64 k ∧ rget (s.xs.drop k) key = r ∧ Blk wr w.heap.size 46 #[.int .i64 0, .int .i64 0, .int .i64 0, .bool false, .string ⟨#[]⟩] ∧ Below w.heap.size w wr) (fun i _ => s.xs.length - (intOf i).toNat)
  case atStart =>
    refine ⟨0, Nat.zero_le _, rfl, Hr.out, Blk.new w _ _, by (repeat (first | with_reducible exact Below.refl _ _ | with_reducible assumption | (with_reducible refine Below.drew ?_) | (with_reducible refine Below.manyDrew ?_ _) | ((with_reducible refine Below.alloc ?_ ?_ _); rotate_left; (focus (first | omega | (dsimp only; omega) | (simp; done) | (simp; omega)))) | ((with_reducible refine Below.setCell ?_ ?_ _); rotate_left; (focus (first | omega | (dsimp only; omega) | (simp; done) | (simp; omega)))) | ((with_reducible refine Below.step ?_ (by assumption) ?_); rotate_left; (focus (first | omega | (dsimp only; omega) | (simp; done) | (simp; omega))))))⟩
  case round =>
    obtain ⟨k, hk, rfl, hkr, hB, hbr⟩ := hrel
    have hz0 := hbr.size
    have hz1 := hB.lt
    have HB := hid hB
    have f0 := hB.frozen 0
    have f1 := hB.frozen 1
    have f2 := hB.frozen 2
    have f3 := hB.frozen 3
    have f4 := hB.frozen 4
    have c0 := hB.cell 0
    have c1 := hB.cell 1
    have c2 := hB.cell 2
    have c3 := hB.cell 3
    have c4 := hB.cell 4
    clear hB
    by_cases hlt : k < s.xs.length
    · obtain ⟨g, off, hA, hg, hcells⟩ := hs.get (by omega)
      obtain ⟨k0, k1, k2, k3, k4⟩ := (hcells k hlt).stays hbr hg
      have hgr : g < wr.heap.size := by omega
      have hgn : g ≠ w.heap.size := by omega
      have hd : s.xs.drop k = s.xs.getD k E.zero :: s.xs.drop (k + 1) := by
        rw [List.drop_eq_getElem_cons hlt, List.getD, List.getElem?_eq_getElem hlt, Option.getD_some]
      rw [hd, rget_cons] at hkr
      generalize s.xs.getD k E.zero = x at *
      obtain ⟨xk, xv, xa, xg, xt⟩ := x
      simp only at k0 k1 k2 k3 k4 hkr
      rw [hA]
      clear hA hcells hd
      by_cases hkk : xk = key
      · subst hkk
        rw [if_pos rfl] at hkr
        subst hkr
        go_wp2_with fail
        refine bodyPost_ret (v := .tuple #[E.val ⟨xk, xv, xa, xg, xt⟩, .bool true]) ?_ rfl ⟨rfl, by (repeat (first | with_reducible exact Below.refl _ _ | with_reducible assumption | (with_reducible refine Below.drew ?_) | (with_reducible refine Below.manyDrew ?_ _) | ((with_reducible refine Below.alloc ?_ ?_ _); rotate_left; (focus (first | omega | (dsimp only; omega) | (simp; done) | (simp; omega)))) | ((with_reducible refine Below.setCell ?_ ?_ _); rotate_left; (focus (first | omega | (dsimp only; omega) | (simp; done) | (simp; omega)))) | ((with_reducible refine Below.step ?_ (by assumption) ?_); rotate_left; (focus (first | omega | (dsimp only; omega) | (simp; done) | (simp; omega))))))⟩
        exact results_box Tryz.results27 rfl (HB.out.put5 _ _ _ _ _) Tryz.underlying46 rfl (by kernel_rfl)
      · rw [if_neg hkk] at hkr
        have Hk := hid hkk
        go_wp2_with fail
        go_roundw
        case rel => exact ⟨k + 1, by omega, by go_num, hkr, HB.out, hbr⟩
        case measure => simp [intOf]; omega
    · obtain rfl : k = s.xs.length := by omega
      rw [List.drop_length, rget_nil] at hkr
      subst hkr
      go_wp2_with fail
      refine bodyPost_ret (v := .tuple #[E.zero.val, .bool false]) ?_ rfl ⟨rfl, by (repeat (first | with_reducible exact Below.refl _ _ | with_reducible assumption | (with_reducible refine Below.drew ?_) | (with_reducible refine Below.manyDrew ?_ _) | ((with_reducible refine Below.alloc ?_ ?_ _); rotate_left; (focus (first | omega | (dsimp only; omega) | (simp; done) | (simp; omega)))) | ((with_reducible refine Below.setCell ?_ ?_ _); rotate_left; (focus (first | omega | (dsimp only; omega) | (simp; done) | (simp; omega)))) | ((with_reducible refine Below.step ?_ (by assumption) ?_); rotate_left; (focus (first | omega | (dsimp only; omega) | (simp; done) | (simp; omega))))))⟩
      exact results_box Tryz.results27 rfl (HB.out.put5 _ _ _ _ _) Tryz.underlying46 rfl (by kernel_rfl)
end Go.Proofs.YtneilklimpdeoaaGreatDoor
