/-
  CONTRACT of repair.Lacks at one cache. CONDITIONS: none.
-/
import Derived.Test.YthjbebngedajiaaDoorRead
namespace Go.Proofs.YthjbebngedajiaaDoor
open Go.RowKit
open Go.ChangeShapes Go.WideShapes Go.ChangeAt

theorem readR_one (c : SlV E) (k : Int) : readR [c] k = getR c.xs k := by
  have hT : chkT [c] = chkC c.xs := by
    rw [chkT, if_neg (by simp), if_neg (by simp), chkTs]
    by_cases h : chkC c.xs = 0
    · rw [if_pos h, chkTs, h]
    · rw [if_neg h]
  rw [readR, chkTK, hT, getR]
  by_cases hc : chkC c.xs = 0
  · rw [if_pos hc, if_pos hc]
    by_cases hk : keyB k = true
    · rw [if_pos hk, if_pos hk, if_pos rfl, readG]
      by_cases hh : hasK k c.xs = true
      · rw [if_pos hh, if_pos hh, if_neg Bool.false_ne_true, readG, if_pos rfl]
      · rw [if_neg hh, if_neg hh, readG, if_neg Bool.false_ne_true]
    · rw [if_neg hk, if_neg hk, if_neg (by decide)]
  · rw [if_neg hc, if_neg hc, if_neg hc]
theorem getR_ok {l : List E} {k : Int} {x : E} (h : getR l k = (x, 0)) : chkC l = 0 ∧ keyB k = true ∧ hasK k l = true ∧ l.getD (plc k l) E.zero = x := by
  unfold getR at h
  split at h
  · rename_i h1
    split at h
    · rename_i h2
      split at h
      · rename_i h3
        injection h with h4 h5
        exact ⟨h1, h2, h3, h4⟩
      · injection h with h4 h5
        cases h5
    · injection h with h4 h5
      cases h5
  · rename_i h1
    injection h with h4 h5
    exact absurd h5 h1

set_option maxHeartbeats 400000 in
theorem lacks_one (A : Option Addr) (cp : Nat) (c : SlV E) (k : Int) (x : E) (w : World) (hs : CachesAt w ⟨A, cp, [c]⟩) (h0 : getR c.xs k = (x, 0)) :
    Calls Tryd.prog 30 #[.slice A 1 cp, .int .i64 k] w fun e w' => e = .returned (.tuple #[.slice none 0 0, .nilIface]) ∧ Below w.heap.size w w' := by
  obtain ⟨hc, hk, hh, hx⟩ := getR_ok h0
  have HR := hid ((readR_one c k).trans h0)
  have Hh := hid hh
  have Hk := hid hk
  obtain ⟨hn, _, hS, hK⟩ := chkC_ok hc
  have HS := hid hS
  have HK := hid hK
  have hp : plc k c.xs < c.xs.length := by
    unfold hasK at hh
    simp at hh
    exact hh.1
  have hcin := hs.each 0 (by simp)
  simp only [List.getElem_cons_zero] at hcin
  obtain ⟨b, off, hA, hb, hcells⟩ := hs.row (by simp)
  have hcell := hcells 0 (by simp)
  simp only [List.getElem_cons_zero, Nat.add_zero] at hcell
  obtain ⟨g, off2, hA2, hg, hcells2⟩ := hcin.get (by omega)
  have hE := hcells2 _ hp
  rw [hx] at hE
  have hcl := hcin.len
  unfold maxLen at hcl
  have hpl := plc k c.xs
  have HA := hid hA
  have HA2 := hid hA2
  simp only at hA
  clear hcells hcells2 h0 hc hk hh hx hS hK hA2 hpl
  have hrd := read_one ⟨A, cp, [c]⟩ k w hs rfl
  rw [HR.out] at hrd
  obtain ⟨xk, xv, xa, xg, xt⟩ := x
  simp only [E.val, List.length_cons, List.length_nil] at hrd
  have Hrd := hide hrd
  subst hA
  clear hrd HR
  go_enter Tryd.func30, Tryd.ntmps30
  go_wp2_with fail
  refine Hrd.out.mono ?_
  rintro e w1 ⟨rfl, hb1⟩; obtain ⟨hc1, hf1⟩ := bcell hb1; have hz1 := hb1.size; (try simp only [World.size_alloc] at hz1); (try simp only [World.size_setCell] at hz1)
  rw [show errV 0 = .nilIface from rfl]
  go_wp2_with fail
  go_loopw [8, 24] (fun o i wr => ∃ j : Nat, j ≤ 1 ∧ o = .slice none 0 0 ∧ i = .int .i64 j ∧ Blk wr w1.heap.size 26 #[.int .i64 xk, .int .i64 xv, .int .i64 xa, .bool xg, .string xt] ∧ Below w.heap.size w wr) (fun _ i _ => 1 - (intOf i).toNat)
  case atStart => exact ⟨0, by omega, rfl, rfl, Blk.new_at (by simp), by (repeat (first | with_reducible exact Below.refl _ _ | with_reducible assumption | (with_reducible refine Below.drew ?_) | (with_reducible refine Below.manyDrew ?_ _) | ((with_reducible refine Below.alloc ?_ ?_ _); rotate_left; (focus (first | omega | (dsimp only; omega) | (simp; done) | (simp; omega)))) | ((with_reducible refine Below.setCell ?_ ?_ _); rotate_left; (focus (first | omega | (dsimp only; omega) | (simp; done) | (simp; omega)))) | ((with_reducible refine Below.step ?_ (by assumption) ?_); rotate_left; (focus (first | omega | (dsimp only; omega) | (simp; done) | (simp; omega))))))⟩
  case round =>
    obtain ⟨j, hj, rfl, rfl, hB, hbr⟩ := hrel
    have hz0 := hbr.size
    rcases j with _ | j
    · have hin := hcin.stays hbr
      obtain ⟨k0, k1, k2, k3, k4⟩ := hE.stays hbr hg
      simp only at k0 k1 k2 k3 k4
      rw [← hbr.cell (p := ⟨b, off, none⟩) hb] at hcell
      have x1 : wr.cell? ⟨w1.heap.size, 1, none⟩ = some (.int .i64 xv) := hB.cell 1
      have hlo := hB.lt
      have hgr : g < wr.heap.size := by omega
      clear hE
      go_wp2_with fail
      refine (place_any k c _ hin HS.out HK.out (keyB_true.1 Hk.out) hn).mono ?_; rintro e w2 ⟨rfl, hb2⟩; obtain ⟨hc2, hf2⟩ := bcell hb2; have hz2 := hb2.size; (try simp only [World.size_alloc] at hz2); (try simp only [World.size_setCell] at hz2)
      rw [Hh.out, HA2.out]
      rw [HA2.out] at hcell
      generalize plc k c.xs = q at *
      have hB2 := hB.belowS hb2
      go_wp2_with fail
      go_quiet (fail)
      go_wp2_with fail
      go_roundw
      case rel => exact ⟨1, by omega, rfl, by go_num, hB2, by (repeat (first | with_reducible exact Below.refl _ _ | with_reducible assumption | (with_reducible refine Below.drew ?_) | (with_reducible refine Below.manyDrew ?_ _) | ((with_reducible refine Below.alloc ?_ ?_ _); rotate_left; (focus (first | omega | (dsimp only; omega) | (simp; done) | (simp; omega)))) | ((with_reducible refine Below.setCell ?_ ?_ _); rotate_left; (focus (first | omega | (dsimp only; omega) | (simp; done) | (simp; omega)))) | ((with_reducible refine Below.step ?_ (by assumption) ?_); rotate_left; (focus (first | omega | (dsimp only; omega) | (simp; done) | (simp; omega))))))⟩
      case measure => simp [intOf]
    · obtain rfl : j = 0 := by omega
      go_wp2_with fail
      refine bodyPost_ret (v := .tuple #[.slice none 0 0, .nilIface]) ?_ rfl ⟨rfl, by (repeat (first | with_reducible exact Below.refl _ _ | with_reducible assumption | (with_reducible refine Below.drew ?_) | (with_reducible refine Below.manyDrew ?_ _) | ((with_reducible refine Below.alloc ?_ ?_ _); rotate_left; (focus (first | omega | (dsimp only; omega) | (simp; done) | (simp; omega)))) | ((with_reducible refine Below.setCell ?_ ?_ _); rotate_left; (focus (first | omega | (dsimp only; omega) | (simp; done) | (simp; omega)))) | ((with_reducible refine Below.step ?_ (by assumption) ?_); rotate_left; (focus (first | omega | (dsimp only; omega) | (simp; done) | (simp; omega))))))⟩
      simp [results, Tryd.results30, go_sem]
end Go.Proofs.YthjbebngedajiaaDoor
