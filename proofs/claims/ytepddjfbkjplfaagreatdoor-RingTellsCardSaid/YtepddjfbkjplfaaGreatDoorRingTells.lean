/-
  PROVED HERE: merelaw1.RingTells returns true: points of any nodes, and whose any key is by any points. CONDITIONS: the library's tables and errors.errorType as the program's text lays them (tied by the card).
-/
import Derived.Test.YtepddjfbkjplfaaGreatDoorRtNodes
import Derived.Test.YtepddjfbkjplfaaGreatDoorRtRing
import Derived.Test.YtepddjfbkjplfaaGreatDoorRtPts
import Derived.Test.YtepddjfbkjplfaaGreatDoorRtOwn
import Derived.Test.YtepddjfbkjplfaaGreatDoorInts
import Derived.Test.YtepddjfbkjplfaaGreatDoorDoorT
import Derived.ChangeVars
import Derived.JoinedOf
import Derived.Stop.Joined
namespace Go.Proofs.YtepddjfbkjplfaaGreatDoor
open Go.RowKit
open Go.ChangeShapes Go.WideShapes Go.ChangeAt

theorem keyQ_any (k : Int) (w : World) : Calls Tryz.prog 10 #[.int .i64 k] w fun e w' => e = .returned (.bool (keyB k)) ∧ w = w' := by
  rcases (show k < 0 ∨ (0 ≤ k ∧ 8 ≤ k) ∨ (0 ≤ k ∧ k < 8) by omega) with h | ⟨h, h2⟩ | ⟨h, h2⟩
  all_goals
    go_enter Tryz.func10, Tryz.ntmps10
    go_wp2
    go_ret
    refine ⟨ret_b ?_, rfl⟩
    symm
    rw [Bool.eq_iff_iff, keyB_true]
    simp
    try omega
theorem PtsAt.nilP (w : World) : PtsAt w ⟨none, 0, []⟩ := ⟨(fun h => by simp at h), (fun x hx => by simp at hx), Nat.zero_le _⟩
theorem ptsE_cases (l : List Int) (each : Int) : ptsE l each = if rnodesE l = 0 ∧ (each < 1 ∨ 8 < each) then 1 else rnodesE l := by
  unfold ptsE
  by_cases h : rnodesE l = 0
  · rw [if_pos h]
    by_cases h2 : each < 1 ∨ 8 < each
    · rw [if_pos h2, if_pos ⟨h, h2⟩]
    · rw [if_neg h2, if_neg (fun h => h2 h.2), h]
  · rw [if_neg h, if_neg (fun h2 => h h2.1)]
theorem ownsE_A (l : List Pt) (key many : Int) : ownsE l key many = if rgE l key = 0 then (if many < 1 ∨ 6 < many then 1 else if ((ownA (rotP l (firstP l key))).length : Int) < many then 5 else 0) else rgE l key := by
  unfold ownsE
  by_cases h2 : many < 1 ∨ 6 < many
  · rw [if_pos h2, if_pos h2]
  · rw [if_neg h2, if_neg h2]
    obtain ⟨m, rfl⟩ := Int.eq_ofNat_of_zero_le (show 0 ≤ many by omega)
    rw [ownL_take, List.length_take]
    congr 1
    split <;> split <;> first | rfl | omega

set_option maxHeartbeats 16000000 in
set_option maxRecDepth 100000 in
theorem ringTells_any (s : SlV Int) (each : Int) (l : SlV Pt) (key many : Int) (w : World) (hs : IntsAt w s) (hok : s.ok) (hl : PtsAt w l) (hlok : l.ok) (htb : Tb w) (hgl : Gl w) :
    Calls Tryz.prog 3 #[.slice s.A s.xs.length s.c, .int .i64 each, .slice l.A l.xs.length l.c, .int .i64 key, .int .i64 many] w fun e w' => e = .returned (.bool true) ∧ Below w.heap.size w w' := by
  have HN := hid (nodesR_any s w hs hok)
  have HPr := hid (fun m W (hW : Below w.heap.size w W) (hm : m ≤ 8) => pointsR_any s m W (hs.stays0 hW) hm)
  have HP := hid (fun W (hW : Below w.heap.size w W) => gpoints_any s each W (hs.stays0 hW) hok (htb.belowS hW))
  have HE := hid (fun n W (hW : Below w.heap.size w W) => show Calls Tryz.prog 7 #[errV n, .int .i64 n] W (fun e w' => e = .returned (.bool true) ∧ Below W.heap.size W w') from (error_any n n W (hgl.belowS hW)).mono fun e w' h => ⟨by rw [h.1]; simp, h.2⟩)
  have HR := hid (fun W (hW : Below w.heap.size w W) => ringR_any l W (hl.stays hW))
  have HOr := hid (fun k W (hW : Below w.heap.size w W) hk h0 h48 => ownersR_any l k W (hl.stays hW) hk h0 h48)
  have HOn := hid (fun W (hW : Below w.heap.size w W) => rowner_any l key W (hl.stays hW) (htb.belowS hW))
  have HOs := hid (fun W (hW : Below w.heap.size w W) => rowners_any l key many W (hl.stays hW) hlok (htb.belowS hW))
  have HKy := hid (fun W => keyQ_any key W)
  unfold ROwns at HOs
  unfold GPts at HP
  clear hs hok hl hlok htb hgl
  go_enter Tryz.func3, Tryz.ntmps3
  go_wp2_with fail
  refine HN.out.mono ?_
  rintro e w1 ⟨rfl, hb1⟩
  have Hb1 := hid hb1
  have hz1 := hb1.size
  clear hb1 HN
  go_upto_region 2 with fail
  go_cut [35] (fun b wx => (∃ bb : Bool, b = .bool bb ∧ (bb = true ↔ rnodesE s.xs = 0 ∧ (each < 1 ∨ 8 < each))) ∧ wx = w1)
  case first =>
    by_cases h0 : rnodesE s.xs = 0
    · have hb0 : (rnodesE s.xs == 0) = true := by rw [beq_iff_eq]; exact h0
      rcases (show each < 1 ∨ (¬ each < 1 ∧ 8 < each) ∨ (¬ each < 1 ∧ ¬ 8 < each) by omega) with h | ⟨h, h2⟩ | ⟨h, h2⟩
      · have H0 := hid (And.intro h0 (Or.inl h : each < 1 ∨ 8 < each))
        generalize rnodesE s.xs = en at *
        clear h0
        go_wp2_with fail
        go_meet
        exact ⟨⟨true, rfl, by simp [H0.out]⟩, rfl⟩
      · have H0 := hid (And.intro h0 (Or.inr h2 : each < 1 ∨ 8 < each))
        generalize rnodesE s.xs = en at *
        clear h0
        go_wp2_with fail
        go_meet
        exact ⟨⟨true, rfl, by simp [H0.out]⟩, rfl⟩
      · have H0 := hid (show ¬ (rnodesE s.xs = 0 ∧ (each < 1 ∨ 8 < each)) from fun hh => by rcases hh.2 with k | k <;> omega)
        generalize rnodesE s.xs = en at *
        clear h0
        go_wp2_with fail
        go_meet
        exact ⟨⟨false, rfl, by simp [H0.out]⟩, rfl⟩
    · have hb0 : (rnodesE s.xs == 0) = false := by rw [beq_eq_false_iff_ne]; exact h0
      have H0 := hid (show ¬ (rnodesE s.xs = 0 ∧ (each < 1 ∨ 8 < each)) from fun hh => h0 hh.1)
      generalize rnodesE s.xs = en at *
      clear h0
      go_wp2_with fail
      go_meet
      exact ⟨⟨false, rfl, by simp [H0.out]⟩, rfl⟩
  case rest =>
  obtain ⟨⟨bb, rfl, hbb⟩, hwc⟩ := hcut
  obtain rfl : w1 = wc := hwc.symm
  have Hbb := hid hbb
  clear hbb
  go_upto_if 35 with fail
  go_cut [11] (fun b wx => b = .int .i64 (ptsE s.xs each) ∧ wx = w1)
  case first =>
    rcases bb with _ | _
    · have H0 := hid (show rnodesE s.xs = ptsE s.xs each by rw [ptsE_cases, if_neg (fun h => by have := Hbb.out.2 h; cases this)])
      clear Hbb
      go_wp2_with fail
      go_meet
      exact ⟨by rw [H0.out], rfl⟩
    · have H0 := hid (show (1 : Int) = ptsE s.xs each by rw [ptsE_cases, if_pos (Hbb.out.1 rfl)])
      clear Hbb
      go_wp2_with fail
      go_meet
      exact ⟨by rw [← H0.out], rfl⟩
  case rest =>
  obtain ⟨rfl, hwc⟩ := hcut
  obtain rfl : w1 = wc := hwc.symm
  clear Hbb
  go_upto_if 37 with fail
  go_cut [12] (fun v wx => (∃ r : SlV Pt, v = .slice r.A r.xs.length r.c ∧ r.xs = (if ptsE s.xs each = 0 then ptsC s.xs each.toNat else []) ∧ PtsAt wx r) ∧ Below w1.heap.size w1 wx)
  case first =>
    by_cases h0 : ptsE s.xs each = 0
    · have hb0 : (ptsE s.xs each == 0) = true := by rw [beq_iff_eq]; exact h0
      obtain ⟨⟨-, -, hnn⟩, h1, h8⟩ := ptsE_ok h0
      obtain ⟨m, rfl⟩ := Int.eq_ofNat_of_zero_le (show 0 ≤ each by omega)
      have hEq := refP_ptsC (m := m) hnn
      have HG := hid (refP_good (l := s.xs) (m := m) (j := 256) (Nat.le_refl _))
      have HEq := hid (show refP s.xs m 256 = if ptsE s.xs (m : Int) = 0 then ptsC s.xs (m : Int).toNat else [] by rw [if_pos h0, Int.toNat_natCast, hEq])
      have HPr1 := hid (HPr.out m w1 Hb1.out (by omega))
      clear hEq hnn h0
      go_wp2_with fail
      refine HPr1.out.mono ?_
      rintro e w2 ⟨v, rfl, hO, hb2⟩
      obtain ⟨r, rfl, hrx, hrA, -, -⟩ := PtsAt.of_ow hO HG.out
      have Hr := hid (And.intro (hrx.trans HEq.out) (And.intro hrA hb2))
      clear hO hrx hrA hb2
      go_wp2_with fail
      go_meet
      exact ⟨⟨r, rfl, Hr.out.1, Hr.out.2.1⟩, Hr.out.2.2⟩
    · have hb0 : (ptsE s.xs each == 0) = false := by rw [beq_eq_false_iff_ne]; exact h0
      have H0 := hid h0
      clear h0
      go_wp2_with fail
      go_meet
      exact ⟨⟨⟨none, 0, []⟩, rfl, by rw [if_neg H0.out], PtsAt.nilP _⟩, Below.refl _ _⟩
  case rest =>
  obtain ⟨⟨r, rfl, hrx, hrA⟩, hb2⟩ := hcut
  obtain ⟨w2, rfl⟩ : ∃ w2 : World, w2 = wc := ⟨_, rfl⟩
  have Hb2 := hid (Below.step Hb1.out hb2 hz1)
  have hz2 := Hb2.out.size
  have HP2 := hid (HP.out w2 Hb2.out)
  have Hrx := hid hrx
  have HrA := hid (fun W (hW : Below w2.heap.size w2 W) => hrA.stays hW)
  clear hb2 hrx hrA HP HPr
  go_wp2_with fail
  refine HP2.out.mono ?_
  clear HP2
  rintro e w3 ⟨x, rfl, hxx, hxA, -, hb3⟩
  have Hb23 := hid hb3
  have hz23 := hb3.size
  have Hb3 := hid (Below.step Hb2.out hb3 hz2)
  have hz3 := Hb3.out.size
  have HE3 := hid (HE.out (ptsE s.xs each) w3 Hb3.out)
  have Hxx := hid hxx
  have HxA := hid (fun W (hW : Below w3.heap.size w3 W) => hxA.stays hW)
  clear hb3 hxx hxA
  go_wp2_with fail
  refine HE3.out.mono ?_
  clear HE3
  rintro e w4 ⟨rfl, hb4⟩
  have Hb4 := hid (Below.step Hb3.out hb4 hz3)
  have hz4 := Hb4.out.size
  have HS4 := hid (points_any x r w4 (HxA.out w4 hb4) (HrA.out w4 (Below.step Hb23.out hb4 hz23)))
  rw [show eqsPt x.xs r.xs = true by rw [Hxx.out, Hrx.out, eqsPt_refl]] at HS4
  clear hb4 HxA HrA Hxx Hrx Hb23
  go_wp2_with fail
  refine HS4.out.mono ?_
  clear HS4
  rintro e w5 ⟨rfl, hb5⟩
  have Hb5 := hid (Below.step Hb4.out hb5 hz4)
  have hz5 := Hb5.out.size
  have HR5 := hid (HR.out w5 Hb5.out)
  obtain ⟨bR, hbR⟩ : ∃ bR, rightP l.xs = bR := ⟨_, rfl⟩
  obtain ⟨bK, hbK⟩ : ∃ bK, keyB key = bK := ⟨_, rfl⟩
  rw [hbR] at HR5
  rw [hbK] at HKy
  have HbR := hid hbR
  have HbK := hid hbK
  clear hbR hbK
  clear hb5 HR
  go_wp2_with fail
  refine HR5.out.mono ?_
  clear HR5
  rintro e w6 ⟨rfl, hb6⟩
  have Hb6 := hid (Below.step Hb5.out hb6 hz5)
  have hz6 := Hb6.out.size
  clear hb6
  go_wp2_with fail
  refine (HKy.out w6).mono ?_
  clear HKy
  rintro e w7 ⟨rfl, hw7⟩
  obtain rfl : w6 = w7 := hw7
  go_upto_if 60 with fail
  go_cut [11] (fun e wx => e = .int .i64 (rgE l.xs key) ∧ wx = w6)
  case first =>
    rcases bR with _ | _
    · have H0 := hid (show (3 : Int) = rgE l.xs key by rw [rgE, HbR.out, if_neg (by decide)])
      go_wp2_with fail
      go_meet
      exact ⟨by rw [← H0.out], rfl⟩
    · rcases bK with _ | _
      · have H0 := hid (show (1 : Int) = rgE l.xs key by rw [rgE, HbR.out, if_pos rfl, HbK.out, if_neg (by decide)])
        go_wp2_with fail
        go_meet
        exact ⟨by rw [← H0.out], rfl⟩
      · have H0 := hid (show (0 : Int) = rgE l.xs key by rw [rgE, HbR.out, if_pos rfl, HbK.out, if_pos rfl])
        go_wp2_with fail
        go_meet
        exact ⟨by rw [← H0.out], rfl⟩
  case rest =>
  obtain ⟨rfl, hwc⟩ := hcut
  obtain rfl : w6 = wc := hwc.symm
  go_upto_if 64 with fail
  go_cut [18, 19] (fun v o wx => (∃ r : SlV Int, v = .slice r.A r.xs.length r.c ∧ r.ok ∧ r.xs = (if rgE l.xs key = 0 then ownA (rotP l.xs (firstP l.xs key)) else []) ∧ IntsAt wx r) ∧ o = .int .i64 (if rgE l.xs key = 0 then ownerP l.xs key else 0) ∧ Below w6.heap.size w6 wx)
  case first =>
    by_cases h0 : rgE l.xs key = 0
    · have hb0 : (rgE l.xs key == 0) = true := by rw [beq_iff_eq]; exact h0
      obtain ⟨hr, hk⟩ := rgE_zero h0
      obtain ⟨k0, k8⟩ := keyB_true.1 hk
      obtain ⟨k, rfl⟩ := Int.eq_ofNat_of_zero_le k0
      obtain ⟨hl0, hl48⟩ := rightP_len hr
      have HO1 := hid (HOr.out k w6 Hb6.out (by omega) hl0 hl48)
      have HF := hid (show ∀ q : List Int, q = ownA (rotP l.xs (firstP l.xs (k : Int))) → 0 < q.length ∧ q.getD 0 0 = ownerP l.xs (k : Int) from fun q hq => by
        obtain ⟨r, hrr⟩ := rotP_head (firstP_lt (k : Int) hl0)
        obtain ⟨t, ht⟩ := ownA_head (l.xs.getD (firstP l.xs (k : Int)) Pt.zero) r
        rw [hq, hrr, ht]
        exact ⟨Nat.succ_pos _, rfl⟩)
      have HV := hid (show (if rgE l.xs (k : Int) = 0 then ownerP l.xs (k : Int) else 0) = ownerP l.xs (k : Int) from if_pos h0)
      have HW := hid (show ownA (rotP l.xs (firstP l.xs (k : Int))) = (if rgE l.xs (k : Int) = 0 then ownA (rotP l.xs (firstP l.xs (k : Int))) else []) from (if_pos h0).symm)
      clear h0 hr hk HOr
      go_wp2_with fail
      refine HO1.out.mono ?_
      clear HO1
      rintro e w7 ⟨v, rfl, hO, hb7⟩
      obtain ⟨r, rfl, hrx, hrA, hro, -⟩ := IntsAt.of_ow hO
      obtain ⟨f1, f2⟩ := HF.out r.xs hrx
      obtain ⟨b, off, hA, hb, hc⟩ := hrA.row f1
      have c0 := hc 0 f1
      rw [f2, Nat.add_zero] at c0
      have Hr := hid (And.intro (hrx.trans HW.out) (And.intro hrA (And.intro hro hb7)))
      have HA := hid hA
      have f1' : (0 : Int) < (r.xs.length : Int) := by omega
      rw [hA]
      clear hO hrx hrA hro hb7 hc hA f2 HF HW
      go_wp2_with fail
      go_meet
      exact ⟨⟨r, by rw [HA.out], Hr.out.2.2.1, Hr.out.1, Hr.out.2.1⟩, by rw [HV.out], Hr.out.2.2.2⟩
    · have hb0 : (rgE l.xs key == 0) = false := by rw [beq_eq_false_iff_ne]; exact h0
      have H0 := hid h0
      clear h0
      go_wp2_with fail
      go_meet
      exact ⟨⟨⟨none, 0, []⟩, rfl, ⟨Nat.le_refl _, Nat.zero_le _⟩, by rw [if_neg H0.out], IntsAt.bare _ _ _⟩, by rw [if_neg H0.out], Below.refl _ _⟩
  case rest =>
  obtain ⟨⟨r, rfl, hro, hrx, hrA⟩, rfl, hb7⟩ := hcut
  obtain ⟨w7, rfl⟩ : ∃ w7 : World, w7 = wc := ⟨_, rfl⟩
  have Hb7 := hid (Below.step Hb6.out hb7 hz6)
  have hz7 := Hb7.out.size
  have HO7 := hid (HOn.out w7 Hb7.out)
  have HrA := hid (fun W (hW : Below w7.heap.size w7 W) => hrA.stays0 hW)
  have Hrx := hid hrx
  have Hro := hid hro
  clear hro hrx hrA hb7 HOn HOr
  generalize (if rgE l.xs key = 0 then ownerP l.xs key else 0) = ow at *
  go_wp2_with fail
  refine HO7.out.mono ?_
  clear HO7
  rintro e w8 ⟨rfl, hb8⟩
  have Hb78 := hid hb8
  have hz78 := hb8.size
  have Hb8 := hid (Below.step Hb7.out hb8 hz7)
  have hz8 := Hb8.out.size
  have HE8 := hid (HE.out (rgE l.xs key) w8 Hb8.out)
  clear hb8
  go_wp2_with fail
  refine HE8.out.mono ?_
  clear HE8
  rintro e w9 ⟨rfl, hb9⟩
  have Hb79 := hid (Below.step Hb78.out hb9 hz78)
  have hz79 := Hb79.out.size
  have Hb9 := hid (Below.step Hb8.out hb9 hz8)
  have hz9 := Hb9.out.size
  clear hb9 Hb78
  go_upto_region 23 with fail
  go_cut [94] (fun b wx => (∃ bb : Bool, b = .bool bb ∧ (bb = true ↔ rgE l.xs key = 0 ∧ (many < 1 ∨ 6 < many))) ∧ wx = w9)
  case first =>
    by_cases h0 : rgE l.xs key = 0
    · have hb0 : (rgE l.xs key == 0) = true := by rw [beq_iff_eq]; exact h0
      rcases (show many < 1 ∨ (¬ many < 1 ∧ 6 < many) ∨ (¬ many < 1 ∧ ¬ 6 < many) by omega) with h | ⟨h, h2⟩ | ⟨h, h2⟩
      · have H0 := hid (And.intro h0 (Or.inl h : many < 1 ∨ 6 < many))
        clear h0
        go_wp2_with fail
        go_meet
        exact ⟨⟨true, rfl, by simp [H0.out]⟩, rfl⟩
      · have H0 := hid (And.intro h0 (Or.inr h2 : many < 1 ∨ 6 < many))
        clear h0
        go_wp2_with fail
        go_meet
        exact ⟨⟨true, rfl, by simp [H0.out]⟩, rfl⟩
      · have H0 := hid (show ¬ (rgE l.xs key = 0 ∧ (many < 1 ∨ 6 < many)) from fun hh => by rcases hh.2 with k | k <;> omega)
        clear h0
        go_wp2_with fail
        go_meet
        exact ⟨⟨false, rfl, by simp [H0.out]⟩, rfl⟩
    · have hb0 : (rgE l.xs key == 0) = false := by rw [beq_eq_false_iff_ne]; exact h0
      have H0 := hid (show ¬ (rgE l.xs key = 0 ∧ (many < 1 ∨ 6 < many)) from fun hh => h0 hh.1)
      clear h0
      go_wp2_with fail
      go_meet
      exact ⟨⟨false, rfl, by simp [H0.out]⟩, rfl⟩
  case rest =>
  obtain ⟨⟨bb, rfl, hbb⟩, hwc⟩ := hcut
  obtain rfl : w9 = wc := hwc.symm
  have Hbb := hid hbb
  clear hbb
  go_upto_if 94 with fail
  go_cut [11] (fun e wx => e = .int .i64 (ownsE l.xs key many) ∧ wx = w9)
  case first =>
    rcases bb with _ | _
    · by_cases h0 : rgE l.xs key = 0
      · have hb0 : (rgE l.xs key == 0) = true := by rw [beq_iff_eq]; exact h0
        have hmm : ¬ (many < 1 ∨ 6 < many) := fun h => by have := Hbb.out.2 ⟨h0, h⟩; cases this
        have hE : ownsE l.xs key many = if (r.xs.length : Int) < many then 5 else 0 := by rw [ownsE_A, if_pos h0, if_neg hmm, Hrx.out, if_pos h0]
        by_cases hlt : (r.xs.length : Int) < many
        · rw [if_pos hlt] at hE
          have HEq := hid hE
          clear hE hmm h0 Hbb
          go_wp2_with fail
          go_meet
          exact ⟨by rw [HEq.out], rfl⟩
        · rw [if_neg hlt] at hE
          have HEq := hid (h0.trans hE.symm)
          clear hE hmm h0 Hbb
          go_wp2_with fail
          go_meet
          exact ⟨by rw [← HEq.out], rfl⟩
      · have hb0 : (rgE l.xs key == 0) = false := by rw [beq_eq_false_iff_ne]; exact h0
        have HEq := hid (show ownsE l.xs key many = rgE l.xs key by rw [ownsE_A, if_neg h0])
        clear h0 Hbb
        go_wp2_with fail
        go_meet
        exact ⟨by rw [HEq.out], rfl⟩
    · have HEq := hid (show ownsE l.xs key many = 1 by obtain ⟨h0, h1⟩ := Hbb.out.1 rfl; rw [ownsE_A, if_pos h0, if_pos h1])
      clear Hbb
      go_wp2_with fail
      go_meet
      exact ⟨by rw [HEq.out], rfl⟩
  case rest =>
  obtain ⟨rfl, hwc⟩ := hcut
  obtain rfl : w9 = wc := hwc.symm
  clear Hbb
  go_upto_if 104 with fail
  go_cut [18] (fun v wx => (∃ q : SlV Int, v = .slice q.A q.xs.length q.c ∧ q.xs = (if ownsE l.xs key many = 0 then ownL many (rotP l.xs (firstP l.xs key)) else []) ∧ IntsAt wx q) ∧ wx = w9)
  case first =>
    by_cases h0 : ownsE l.xs key many = 0
    · have hb0 : (ownsE l.xs key many == 0) = true := by rw [beq_iff_eq]; exact h0
      have hb1 : (ownsE l.xs key many != 0) = false := by rw [bne, hb0]; rfl
      obtain ⟨g0, m1, m6, -⟩ := ownsE_zero h0
      obtain ⟨m, rfl⟩ := Int.eq_ofNat_of_zero_le (show 0 ≤ many by omega)
      have hE := ownsE_A l.xs key (m : Int)
      rw [h0, if_pos g0, if_neg (by omega)] at hE
      have hml : m ≤ r.xs.length := by
        rw [Hrx.out, if_pos g0]
        rcases Nat.lt_or_ge (ownA (rotP l.xs (firstP l.xs key))).length m with h | h
        · rw [if_pos (by omega)] at hE; cases hE
        · exact h
      have HQ := hid (show r.xs.take m = (if ownsE l.xs key (m : Int) = 0 then ownL (m : Int) (rotP l.xs (firstP l.xs key)) else []) by rw [if_pos h0, ownL_take, Hrx.out, if_pos g0])
      have hlen : (r.xs.take m).length = m := by rw [List.length_take]; omega
      have HQl := hid hlen
      have hrA := (HrA.out w9 Hb79.out).preR m hml
      have HQA := hid hrA
      obtain ⟨b, off, hA, -⟩ := (HrA.out w9 Hb79.out).row (by omega)
      have HA := hid hA
      have hmc : m ≤ r.c := Nat.le_trans hml Hro.out.1
      have hmc' : (m : Int) ≤ (r.c : Int) := by omega
      have hml' : (m : Int) ≤ (r.xs.length : Int) := by omega
      have hm0 : (0 : Int) ≤ (m : Int) := by omega
      rw [hA]
      clear hA h0 g0 hE hlen hrA
      go_wp2_with fail
      go_meet
      exact ⟨⟨⟨r.A, r.c, r.xs.take m⟩, by rw [HA.out, HQl.out], HQ.out, HQA.out⟩, rfl⟩
    · have hb0 : (ownsE l.xs key many == 0) = false := by rw [beq_eq_false_iff_ne]; exact h0
      have hb1 : (ownsE l.xs key many != 0) = true := by rw [bne, hb0]; rfl
      have H0 := hid h0
      clear h0
      go_wp2_with fail
      go_meet
      exact ⟨⟨⟨none, 0, []⟩, rfl, by rw [if_neg H0.out], IntsAt.bare _ _ _⟩, rfl⟩
  case rest =>
  obtain ⟨⟨q, rfl, hqx, hqA⟩, hwc⟩ := hcut
  obtain rfl : w9 = wc := hwc.symm
  have HqA := hid (fun W (hW : Below w9.heap.size w9 W) => hqA.stays0 hW)
  have Hqx := hid hqx
  have HO9 := hid (HOs.out w9 Hb9.out)
  clear hqx hqA HOs HrA Hrx Hro
  go_wp2_with fail
  refine HO9.out.mono ?_
  clear HO9
  rintro e w10 ⟨y, rfl, hyx, -, hyA, hb10⟩
  have Hb910 := hid hb10
  have hz910 := hb10.size
  have Hb10 := hid (Below.step Hb9.out hb10 hz9)
  have hz10 := Hb10.out.size
  have HE10 := hid (HE.out (ownsE l.xs key many) w10 Hb10.out)
  have Hyx := hid hyx
  have HyA := hid (fun W (hW : Below w10.heap.size w10 W) => hyA.stays0 hW)
  clear hb10 hyx hyA HE
  go_wp2_with fail
  refine HE10.out.mono ?_
  clear HE10
  rintro e w11 ⟨rfl, hb11⟩
  have Hb11 := hid (Below.step Hb10.out hb11 hz10)
  have hz11 := Hb11.out.size
  have HS11 := hid (ints_any y q w11 (HyA.out w11 hb11) (HqA.out w11 (Below.step Hb910.out hb11 hz910)))
  rw [show sameI y.xs q.xs = true by rw [Hyx.out, Hqx.out, sameI_self]] at HS11
  clear hb11 Hyx Hqx HyA HqA
  go_wp2_with fail
  refine HS11.out.mono ?_
  rintro e w12 ⟨rfl, hb12⟩
  have Hb12 := hid (Below.step Hb11.out hb12 hz11)
  clear hb12
  go_wp2_with fail
  go_ret
  exact ⟨rfl, Hb12.out⟩

set_option maxRecDepth 100000 in
theorem trodAll_five {H : Type} {enc : TypeId × Value → H} {P : Program} {w : World} {base : Nat} {sp : Nat → Bool} {held : Bool} {t t' t'' t3 t4 : TypeId} {args : Array Value} {ds : List (DataW H)} {ps : List MemPlace} (h : DataW.TrodAll enc P w base sp held [t, t', t'', t3, t4] args.toList ds ps) :
    ∃ v v' v'' v3 v4 d d' d'' d3 d4 p p' p'' p3 p4, args = #[v, v', v'', v3, v4] ∧ ds = [d, d', d'', d3, d4] ∧ ps = p ++ (p' ++ (p'' ++ (p3 ++ (p4 ++ [])))) ∧ DataW.Trod enc P w base sp held t v d p ∧ DataW.Trod enc P w base sp held t' v' d' p' ∧ DataW.Trod enc P w base sp held t'' v'' d'' p'' ∧ DataW.Trod enc P w base sp held t3 v3 d3 p3 ∧ DataW.Trod enc P w base sp held t4 v4 d4 p4 := by
  obtain ⟨v, vs, d, ds', p, q, e1, rfl, rfl, h1, h⟩ := trodAll_cons h
  obtain ⟨v', vs', d', ds'', p', q', rfl, rfl, rfl, h2, h⟩ := trodAll_cons h
  obtain ⟨v'', vs'', d'', ds3, p'', q'', rfl, rfl, rfl, h3, h⟩ := trodAll_cons h
  obtain ⟨v3, vs3, d3, ds4, p3, q3, rfl, rfl, rfl, h4, h⟩ := trodAll_cons h
  obtain ⟨v4, vs4, d4, ds5, p4, q4, rfl, rfl, rfl, h5, h⟩ := trodAll_cons h
  obtain ⟨rfl, rfl, rfl⟩ := trodAll_nil h
  refine ⟨v, v', v'', v3, v4, d, d', d'', d3, d4, p, p', p'', p3, p4, ?_, rfl, rfl, h1, h2, h3, h4, h5⟩
  exact Array.toList_inj.1 (by simpa using e1)
set_option maxRecDepth 100000 in
theorem ringTells_walk : LawWalk Tryz.prog 3 Tryz.f3 (fun W => Tb W ∧ Gl W) := by
  intro W base args H enc ds p hval hA hgl
  rw [Tryz.params3] at hA hval
  obtain ⟨v0, v1, v2, v3, v4, d0, d1, d2, d3, d4, p0, p1, p2, p3, p4, rfl, rfl, rfl, h0, h1, h2, h3, h4⟩ := trodAll_five hA
  obtain ⟨s, rfl, hs⟩ := arg_slice Tryz.underlying22 (Codec.int Tryz.underlying3) (pos_of_eq Tryz.cellsInt (by decide)) (hval 0 22 v0 rfl rfl) h0
  obtain ⟨i, rfl, _⟩ := arg_int Tryz.underlying3 (hval 1 3 v1 rfl rfl) h1
  obtain ⟨l, rfl, hl⟩ := arg_slice Tryz.underlying23 codecPt (pos_of_eq Tryz.cellsPt (by decide)) (hval 2 23 v2 rfl rfl) h2
  obtain ⟨k, rfl, _⟩ := arg_int Tryz.underlying3 (hval 3 3 v3 rfl rfl) h3
  obtain ⟨m, rfl, _⟩ := arg_int Tryz.underlying3 (hval 4 3 v4 rfl rfl) h4
  exact ringTells_any s i l k m W (intsAt_of hs) ⟨hs.2.2.1, hs.2.2.2⟩ (PtsAt_of hl) ⟨hl.2.2.1, hl.2.2.2⟩ hgl.1 hgl.2

set_option maxRecDepth 100000 in
theorem ringTells_lifted (os : Os) (started : os.Started) (H : Type) (enc : TypeId × Value → H) :
    ReturnsInHanded {} Tryz.checked os 3 .any (fun w args => (Rows.ringTellsSpec.pre enc Tryz.checked.prog Tryz.f3 [] false w args ∧ laidMetH Tryz.prog laid4 w) ∧ sizedMet enc Tryz.checked.prog Tryz.f3 (OpenSpec.ofChange Rows.ringTellsSpec) false w args) (Rows.ringTellsSpec.post enc Tryz.checked.prog Tryz.f3 false true false false) :=
  laid_lifted (C := Tryz.checked) laid4 (fun _ h => tb_of_laid4 h) [] Tryz.own started (by kernel_rfl) Tryz.func3 Tryz.laidOut (by kernel_rfl) rfl Tryz.underlying4 rfl (fun ds h => by match ds, h with | [_, _, _, _, _], _ => rfl)
    (ChangeSpec.witness_shaped (enc := enc) (C := Tryz.checked) (os := os) (X := fun w _ => laidMetH Tryz.prog laid4 w) false (World.doorLaid Tryz.prog 4000 os) #[.slice none 0 0, .int .i64 0, .slice none 0 0, .int .i64 0, .int .i64 0] 8 rfl (World.shaped_of_RefB (by kernel_rfl) (by kernel_rfl)) (by kernel_rfl) (by kernel_rfl) (by kernel_rfl) (door_met4 os _)) ringTells_walk

theorem ringTells_row : Rows.RingTellsSaid :=
  OpenClaim.holds_of_wide 3 Tryz.f3 rfl rfl rfl rfl rfl rfl rfl ⟨rfl, rfl, rfl, rfl, rfl⟩ rfl rfl rfl rfl rfl (by kernel_rfl) Tryz.func3 (by kernel_rfl)
    (of_decide_eq_true (by kernel_rfl)) (by unfold Func.isWrapper; rw [if_neg (of_decide_eq_false (by kernel_rfl))]; exact ⟨rfl, rfl⟩)
    (fun os started H enc _ => ringTells_lifted os started H enc)

theorem ringTells_holds : Rows.RingTellsCardSaid :=
  Claim7.holds_tied_plain_at .later [] [.data, .data, .data, .handle] true _ true
    ringTells_row (fun _ h => by cases h) (by kernel_rfl) (fun _ h => by cases h) ringTells_row_tie rfl ⟨rfl, rfl⟩ (by kernel_rfl) rfl
    (fun f fn hf hfn => by
      obtain rfl : f = 3 := Option.some.inj ((show Tryz.prog.funcNamed "beaconmere/merelaw1.RingTells" = some 3 by kernel_rfl).symm.trans hf) |>.symm
      obtain rfl : fn = Tryz.f3 := (Option.some.inj (Tryz.func3.symm.trans hfn)).symm
      refine ⟨by kernel_rfl, fun j t ht => ?_⟩
      have hall : Tryz.f3.params.toList.all (fun t => !Tryz.prog.wantsStandIn t) = true := by kernel_rfl
      have hm : t ∈ Tryz.f3.params.toList := by
        obtain ⟨hj, hje⟩ := Array.getElem?_eq_some_iff.1 ht
        rw [← hje]
        exact Array.mem_toList_iff.2 (Array.getElem_mem hj)
      have := List.all_eq_true.1 hall t hm
      exact (show Tryz.prog.wantsStandIn t = false by simpa using this))
    (by kernel_rfl)

end Go.Proofs.YtepddjfbkjplfaaGreatDoor
