/-
  CONTRACTS: ring.right, ring.check, slices.IndexFunc at ring.first's closure, ring.first, ring.Owner. CONDITIONS: the library's table of the powers of ten reads as it is laid (Tb).
-/
import Derived.Test.YtepddjfbkjplfaaGreatDoorRing3
import Derived.StillTailTactics
namespace Go.Proofs.YtepddjfbkjplfaaGreatDoor
open Go.RowKit
open Go.ChangeShapes Go.WideShapes Go.ChangeAt

/-- a point in its bounds -/
def boundP (x : Pt) : Bool := decide (0 ≤ x.pos) && decide (x.pos ≤ 255) && nodeB x.node
/-- points right from here on, the one ahead of them known -/
def rightF : Option Pt → List Pt → Bool
  | _, [] => true
  | p, x :: r => boundP x && (match p with | some y => ltP y x | none => true) && rightF (some x) r
theorem rightF_cons (p : Option Pt) (x : Pt) (r : List Pt) : rightF p (x :: r) = (boundP x && (match p with | some y => ltP y x | none => true) && rightF (some x) r) := rfl
def rightP (l : List Pt) : Bool := rightF none l && decide (0 < l.length) && decide (l.length ≤ 48)
def rgE (l : List Pt) (key : Int) : Int := if rightP l = true then (if keyB key = true then 0 else 1) else 3
theorem keyR_any (k : Int) (w : World) : Calls Tryz.prog 38 #[.int .i64 k] w fun e w' => e = .returned (.bool (keyB k)) ∧ w = w' := by
  rcases (show k < 0 ∨ (0 ≤ k ∧ 8 ≤ k) ∨ (0 ≤ k ∧ k < 8) by omega) with h | ⟨h, h2⟩ | ⟨h, h2⟩
  all_goals
    go_enter Tryz.func38, Tryz.ntmps38
    go_wp2
    go_ret
    refine ⟨ret_b ?_, rfl⟩
    symm
    rw [Bool.eq_iff_iff, keyB_true]
    simp
    try omega
theorem bstepR {a W W' : World} (h : Below a.heap.size a W) (k : Below W.heap.size W W') : Below a.heap.size a W' := h.trans (k.mono h.size)
theorem rkeep2 {w0 W : World} {p1 p2 : Addr} {v1 v2 : Value} (l1 : p1.block < w0.heap.size) (l2 : p2.block < w0.heap.size) (c1 : w0.cell? p1 = some v1) (c2 : w0.cell? p2 = some v2) (h : Below w0.heap.size w0 W) : Below w0.heap.size w0 W ∧ W.cell? p1 = some v1 ∧ W.cell? p2 = some v2 :=
  ⟨h, (h.cell l1).trans c1, (h.cell l2).trans c2⟩
theorem rkeep4 {w0 W : World} {p1 p2 p3 p4 : Addr} {v1 v2 v3 v4 : Value} (l1 : p1.block < w0.heap.size) (l2 : p2.block < w0.heap.size) (l3 : p3.block < w0.heap.size) (l4 : p4.block < w0.heap.size) (c1 : w0.cell? p1 = some v1) (c2 : w0.cell? p2 = some v2) (c3 : w0.cell? p3 = some v3) (c4 : w0.cell? p4 = some v4) (h : Below w0.heap.size w0 W) : Below w0.heap.size w0 W ∧ W.cell? p1 = some v1 ∧ W.cell? p2 = some v2 ∧ W.cell? p3 = some v3 ∧ W.cell? p4 = some v4 :=
  ⟨h, (h.cell l1).trans c1, (h.cell l2).trans c2, (h.cell l3).trans c3, (h.cell l4).trans c4⟩
set_option maxHeartbeats 8000000 in
set_option maxRecDepth 100000 in
theorem right_any (s : SlV Pt) (w : World) (hs : PtsAt w s) :
    Calls Tryz.prog 37 #[.slice s.A s.xs.length s.c] w fun e w' => e = .returned (.bool (rightP s.xs)) ∧ Below w.heap.size w w' := by
  have hlen := hs.len
  unfold maxLen at hlen
  have HS := hid (fun W (hW : Below w.heap.size w W) => hs.stays hW)
  clear hs
  generalize hR : rightF none s.xs = R
  have HR := hid hR
  have HFin := hid (show ∀ b, R = b → rightP s.xs = (b && decide (0 < s.xs.length) && decide (s.xs.length ≤ 48)) from fun b hb => by rw [rightP, hR, hb])
  clear hR
  go_enter Tryz.func37, Tryz.ntmps37
  go_wp2_with fail
  go_loopw [7] (fun i wr => ∃ j : Nat, j ≤ s.xs.length ∧ i = .int .i64 j ∧ rightF (if j = 0 then none else some (s.xs.getD (j - 1) Pt.zero)) (s.xs.drop j) = R ∧ Below w.heap.size w wr) (fun i _ => s.xs.length - (intOf i).toNat)
  case atStart => exact ⟨0, Nat.zero_le _, rfl, HR.out, Below.refl _ _⟩
  case round =>
    obtain ⟨j, hj, rfl, hkr, hbr⟩ := hrel
    obtain ⟨wj, rfl⟩ : ∃ wj : World, wj = wr := ⟨_, rfl⟩
    have Hbr := hid hbr
    have hzj := hbr.size
    by_cases hlt : j < s.xs.length
    · obtain ⟨b, off, hA, hb, hcells⟩ := (HS.out wj hbr).row (by omega)
      obtain ⟨k0, k1⟩ := hcells j hlt
      have hprev := hid (fun (h0 : 0 < j) => hcells (j - 1) (by omega))
      rw [drop_consD Pt.zero hlt, rightF_cons] at hkr
      have hjl : (j : Int) < (s.xs.length : Int) := by omega
      have Hnext := hid (show (if j + 1 = 0 then none else some (s.xs.getD (j + 1 - 1) Pt.zero)) = some (s.xs.getD j Pt.zero) by rw [if_neg (by omega), Nat.add_sub_cancel])
      obtain ⟨x, hx⟩ : ∃ x, s.xs.getD j Pt.zero = x := ⟨_, rfl⟩
      rw [hx] at k0 k1 hkr Hnext
      obtain ⟨x0, x1⟩ := x
      simp only at k0 k1
      rw [hA]
      clear hA hcells hbr hx
      have hB1 := Blk.new wj 44 #[.int .i64 x0, .int .i64 x1]
      obtain ⟨w1, hw1⟩ : ∃ W : World, W = wj.alloc (.cells #[.int .i64 x0, .int .i64 x1] 44) := ⟨_, rfl⟩
      have hb1 : Below wj.heap.size wj w1 := by rw [hw1]; exact (Below.refl _ _).alloc (Nat.le_refl _) _
      rw [← hw1] at hB1
      have c0 : w1.cell? ⟨wj.heap.size, 0, none⟩ = some (.int .i64 x0) := hB1.cell 0
      have c1 : w1.cell? ⟨wj.heap.size, 1, none⟩ = some (.int .i64 x1) := hB1.cell 1
      have hl1 := hB1.lt
      have Hw1 := hid hw1
      have Hb1 := hid (Below.step Hbr.out hb1 hzj)
      have HN := hid (rnode_any x1)
      have Hk1 := hid (fun (h0 : 0 < j) => (hprev.out h0).stays hb1 hb)
      have hb1' := hb1.size
      have hbl1 : b < w1.heap.size := by omega
      clear hw1 hB1 hb1 hprev
      go_upto_region 4 with fail
      rw [← Hw1.out]
      clear k0 k1
      obtain ⟨pv, hpv⟩ : ∃ pv : Bool, (match (if j = 0 then none else some (s.xs.getD (j - 1) Pt.zero)) with | some y => ltP y ⟨x0, x1⟩ | none => true) = pv := ⟨_, rfl⟩
      rw [hpv] at hkr
      have Hpv := hid hpv
      have Hkr := hid hkr
      clear hpv hkr
      obtain ⟨BB, hBB⟩ : ∃ BB : Bool, (boundP ⟨x0, x1⟩ && pv) = BB := ⟨_, rfl⟩
      have HBB := hid hBB
      clear hBB
      go_cut [39] (fun v wx => v = .bool (!BB) ∧ Below w1.heap.size w1 wx)
      case first =>
        have hgr := hl1
        have j0 := c0
        have j1 := c1
        have HNq := hid (fun W => (HN.out W).mono fun e w' (h : e = .returned (.bool (nodeB x1)) ∧ W = w') => (⟨h.1, h.2.symm⟩ : e = .returned (.bool (nodeB x1)) ∧ w' = W))
        clear hgr j0 j1
        by_cases hx0 : x0 < 0
        · obtain rfl : BB = false := by rw [← HBB.out]; simp [boundP]; omega
          have g0 : decide (x0 < 0) = true := decide_eq_true hx0
          clear HN HNq Hk1 hx0
          go_quiet (fail)
          go_wp2_with fail
          go_meet
          exact ⟨rfl, Below.manyDrew (Below.refl _ _) _⟩
        have g0 : decide (x0 < 0) = false := decide_eq_false hx0
        by_cases hx1 : 255 < x0
        · obtain rfl : BB = false := by rw [← HBB.out]; simp [boundP]; omega
          have g1 : decide (255 < x0) = true := decide_eq_true hx1
          clear HN HNq Hk1 hx0 hx1
          go_quiet (fail)
          go_wp2_with fail
          go_meet
          exact ⟨rfl, Below.manyDrew (Below.refl _ _) _⟩
        have g1 : decide (255 < x0) = false := decide_eq_false hx1
        rcases hn : nodeB x1 with _ | _
        · obtain rfl : BB = false := by rw [← HBB.out]; simp [boundP, hn]
          rw [hn] at HNq
          clear Hk1 hn hx0 hx1 HN
          go_quiet ((go_at_call 29; exact Calls.quiet_of_same (HNq.out _)))
          go_wp2_with fail
          go_meet
          exact ⟨rfl, Below.manyDrew (Below.refl _ _) _⟩
        have hbd : boundP ⟨x0, x1⟩ = true := by simp [boundP, hn]; omega
        rw [hn] at HN HNq
        have hBp : BB = pv := by rw [← HBB.out, hbd, Bool.true_and]
        subst hBp
        clear hn hbd HBB hx0 hx1
        by_cases h0 : 0 < j
        · obtain ⟨d0, d1⟩ := Hk1.out h0
          have hpv := Hpv.out
          rw [if_neg (by omega)] at hpv
          simp only at hpv
          obtain ⟨y, hy⟩ : ∃ y, s.xs.getD (j - 1) Pt.zero = y := ⟨_, rfl⟩
          rw [hy] at d0 d1 hpv
          obtain ⟨y0, y1⟩ := y
          simp only at d0 d1
          have hOr := hid (fun W => order_any ⟨y0, y1⟩ ⟨x0, x1⟩ W)
          have hge := ordP_geq ⟨y0, y1⟩ ⟨x0, x1⟩
          rw [hpv] at hge
          generalize ordP ⟨y0, y1⟩ ⟨x0, x1⟩ = ov at *
          simp only [Pt.val] at hOr
          have g3 : decide ((0 : Int) < (j : Int)) = true := decide_eq_true (by omega)
          have hwr : IntKind.i64.wrap ((j : Int) - 1) = ((j - 1 : Nat) : Int) := (IntWalk.i64_in ((j : Int) - 1) (by omega)).trans (by omega)
          have hj1 : ((j - 1 : Nat) : Int) < (s.xs.length : Int) := by omega
          clear Hk1 hy hpv Hpv HNq
          rcases BB with _ | _
          · have g4 : decide ((0 : Int) ≤ ov) = true := decide_eq_true (hge.2 (by decide))
            clear hge
            refine wp_region_still_tail 24 (by kernel_rfl) (by kernel_rfl) ?_
            simp only [List.take_succ_cons, List.take_zero, List.drop_succ_cons, List.drop_zero]
            repeat still_step
            still_call ((HN.out _).mono fun e w' h => ⟨h.1, h.2.symm⟩)
            repeat still_step
            try refine wpStill_nil ?_
            change wpList _ _ _ _ _ w1.drew
            have hd : Below w1.heap.size w1 w1.drew := (Below.refl _ _).drew
            generalize w1.drew = w3 at *
            go_wp2_with fail
            refine (hOr.out _).mono ?_
            rintro e w8 ⟨rfl, hb8⟩
            have Hb8 := hid (bstepR hd hb8)
            clear hb8
            go_wp2_with fail
            go_meet
            exact ⟨rfl, Hb8.out⟩
          · have g4 : decide ((0 : Int) ≤ ov) = false := decide_eq_false (fun h => (hge.1 h) rfl)
            clear hge
            refine wp_region_still_tail 24 (by kernel_rfl) (by kernel_rfl) ?_
            simp only [List.take_succ_cons, List.take_zero, List.drop_succ_cons, List.drop_zero]
            repeat still_step
            still_call ((HN.out _).mono fun e w' h => ⟨h.1, h.2.symm⟩)
            repeat still_step
            try refine wpStill_nil ?_
            change wpList _ _ _ _ _ w1.drew
            have hd : Below w1.heap.size w1 w1.drew := (Below.refl _ _).drew
            generalize w1.drew = w3 at *
            go_wp2_with fail
            refine (hOr.out _).mono ?_
            rintro e w8 ⟨rfl, hb8⟩
            have Hb8 := hid (bstepR hd hb8)
            clear hb8
            go_wp2_with fail
            go_meet
            exact ⟨rfl, Hb8.out⟩
        · obtain rfl : j = 0 := by omega
          have hpv := Hpv.out
          rw [if_pos rfl] at hpv
          simp only at hpv
          subst hpv
          clear Hk1 Hpv HN
          go_quiet ((go_at_call 29; exact Calls.quiet_of_same (HNq.out _)))
          go_wp2_with fail
          go_meet
          exact ⟨rfl, Below.manyDrew (Below.refl _ _) _⟩
      case rest =>
      obtain ⟨rfl, hb2⟩ := hcut
      obtain ⟨w2, rfl⟩ : ∃ w2 : World, w2 = wc := ⟨_, rfl⟩
      have Hb2 := hid (Below.step Hb1.out hb2 Hb1.out.size)
      clear hb2 c0 c1 Hk1 HN
      rcases BB with _ | _
      · have HF := hid (HFin.out false (by rw [← Hkr.out, HBB.out]; rfl))
        go_wp2_with fail
        go_ret
        exact ⟨by rw [HF.out]; rfl, Hb2.out⟩
      · have Hk2 := hid (show rightF (if j + 1 = 0 then none else some (s.xs.getD (j + 1 - 1) Pt.zero)) (s.xs.drop (j + 1)) = R by rw [Hnext.out, ← Hkr.out, HBB.out]; rfl)
        go_wp2_with fail
        go_roundw
        case rel => exact ⟨j + 1, by omega, by go_num, Hk2.out, Hb2.out⟩
        case measure => simp [intOf]; omega
    · obtain rfl : j = s.xs.length := by omega
      rw [List.drop_length] at hkr
      have HF := hid (HFin.out true hkr.symm)
      clear hkr hbr
      have Hbr2 := hid Hbr.out
      by_cases h0 : 0 < s.xs.length
      · have h0' : (0 : Int) < (s.xs.length : Int) := by omega
        by_cases h48 : s.xs.length ≤ 48
        · have h48' : (s.xs.length : Int) ≤ 48 := by omega
          have HF2 := hid (show rightP s.xs = true by rw [HF.out, decide_eq_true h0, decide_eq_true h48]; rfl)
          clear h0 h48 HF
          go_wp2_with fail
          go_ret
          exact ⟨by rw [HF2.out]; rfl, Hbr2.out⟩
        · have h48' : ¬ (s.xs.length : Int) ≤ 48 := by omega
          have HF2 := hid (show rightP s.xs = false by rw [HF.out, decide_eq_false h48, Bool.and_false])
          clear h0 h48 HF
          go_wp2_with fail
          go_ret
          exact ⟨by rw [HF2.out]; rfl, Hbr2.out⟩
      · have h0' : ¬ (0 : Int) < (s.xs.length : Int) := by omega
        have HF2 := hid (show rightP s.xs = false by rw [HF.out, decide_eq_false h0, Bool.and_false, Bool.false_and])
        clear h0 HF
        go_wp2_with fail
        go_ret
        exact ⟨by rw [HF2.out]; rfl, Hbr2.out⟩
end Go.Proofs.YtepddjfbkjplfaaGreatDoor
