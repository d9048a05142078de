/-
  PROVED HERE: merelaw2.RumorTells returns true: how often any is told, any that is new, and which are told next are as the document says. CONDITIONS: errors.errorType as the program's text lays it (tied by the card).
-/
import Derived.Test.YtgamocljdbffpaaDoorLimit
import Derived.Test.YtgamocljdbffpaaDoorVJoin
import Derived.Test.YtgamocljdbffpaaDoorRUHear
import Derived.Test.YtgamocljdbffpaaDoorRPickW
import Derived.Test.YtgamocljdbffpaaDoorRumB
import Derived.Test.YtgamocljdbffpaaDoorRumE
import Derived.Test.YtgamocljdbffpaaDoorDoor
import Derived.Deep.CutBlock
import Derived.Deep.DeepCutAuto
namespace Go.Proofs.YtgamocljdbffpaaDoor
open Go.RowKit
open Go.ChangeShapes Go.WideShapes Go.ChangeAt

theorem MRow.nil (w : World) : MRow w (.slice none 0 0) [] := ⟨⟨none, 0, []⟩, rfl, rfl, MsAt.empty _ _ _⟩
theorem MRow.stays {w w' : World} {v : Value} {l : List M} (h : MRow w v l) (hb : Below w.heap.size w w') : MRow w' v l := by
  obtain ⟨r, h1, h2, h3⟩ := h
  exact ⟨r, h1, h2, h3.stays hb⟩
/-- a row of rumors in a slot -/
def URow (w : World) (v : Value) (l : List U) : Prop := ∃ r : SlV U, v = .slice r.A r.xs.length r.c ∧ r.xs = l ∧ UsAt w r
theorem URow.nil (w : World) : URow w (.slice none 0 0) [] := ⟨⟨none, 0, []⟩, rfl, rfl, UsAt.empty _ _ _⟩
theorem URow.stays {w w' : World} {v : Value} {l : List U} (h : URow w v l) (hb : Below w.heap.size w w') : URow w' v l := by
  obtain ⟨r, h1, h2, h3⟩ := h
  exact ⟨r, h1, h2, h3.stays hb⟩
theorem addUR_zero {l : List U} {m : M} (h : (addUR l m).2 = 0) : chkU l = 0 ∧ rightB m = true ∧ (addUR l m).1 = addU l m := by
  unfold addUR at h ⊢
  split at h
  · rename_i h1
    split at h
    · rename_i h2
      rw [if_pos h1, if_pos h2]
      exact ⟨h1, h2, rfl⟩
    · cases h
  · rename_i h1
    exact absurd h h1
theorem addUR_err {l : List U} {m : M} (h : (addUR l m).2 ≠ 0) : (addUR l m).1 = ([], false) := by
  unfold addUR at h ⊢
  split
  · rename_i h1
    rw [if_pos h1] at h
    split
    · rename_i h2
      rw [if_pos h2] at h
      exact absurd rfl h
    · rfl
  · rfl
theorem pickUR_zero {l : List U} {many limit : Int} (h : (pickUR l many limit).2 = 0) : chkU l = 0 ∧ (0 ≤ many ∧ many ≤ 6 ∧ 1 ≤ limit ∧ limit ≤ 60) ∧ (pickUR l many limit).1 = pickU l many.toNat limit := by
  unfold pickUR at h ⊢
  split at h
  · rename_i h1
    split at h
    · rename_i h2
      rw [if_pos h1, if_pos h2]
      exact ⟨h1, h2, rfl⟩
    · cases h
  · rename_i h1
    exact absurd h h1
theorem pickUR_err {l : List U} {many limit : Int} (h : (pickUR l many limit).2 ≠ 0) : (pickUR l many limit).1 = ([], []) := by
  unfold pickUR at h ⊢
  split
  · rename_i h1
    rw [if_pos h1] at h
    split
    · rename_i h2
      rw [if_pos h2] at h
      exact absurd rfl h
    · rfl
  · rfl
theorem pickU_good {l : List U} {k : Nat} {limit : Int} (h : chkU l = 0) (hl : limit ≤ 60) : (∀ y ∈ (pickU l k limit).1, y.good) ∧ ∀ y ∈ (pickU l k limit).2, y.good := by
  refine ⟨fun y hy => ?_, uval_good (left_ok h hl)⟩
  obtain ⟨z, hz, hy⟩ := List.mem_flatMap.1 hy
  unfold toldU at hy
  split at hy
  · rw [List.mem_singleton.1 hy]
    exact right_good (okU_true.1 ((uval_iff.1 h).2 z hz)).1
  · cases hy
theorem pickUR_good (l : List U) (many limit : Int) : (∀ y ∈ (pickUR l many limit).1.1, y.good) ∧ ∀ y ∈ (pickUR l many limit).1.2, y.good := by
  by_cases h : (pickUR l many limit).2 = 0
  · obtain ⟨h1, h2, h3⟩ := pickUR_zero h
    rw [h3]
    exact pickU_good h1 h2.2.2.2
  · rw [pickUR_err h]
    exact ⟨by simp, by simp⟩

set_option maxHeartbeats 32000000 in
set_option maxRecDepth 100000 in
theorem rumorTells_any (n : Int) (s : SlV U) (x0 x1 x2 many limit : Int) (w : World) (hs : UsAt w s) (hgl : Gl w) :
    Calls Tryd.prog 5 #[.int .i64 n, .slice s.A s.xs.length s.c, .agg #[.int .i64 x0, .int .i64 x1, .int .i64 x2], .int .i64 many, .int .i64 limit] w fun e w' => e = .returned (.bool true) ∧ Below w.heap.size w w' := by
  have HS := hid (fun W (hW : Below w.heap.size w W) => hs.stays hW)
  have HG := hid (fun W (hW : Below w.heap.size w W) => hgl.belowS hW)
  have hls := hs.len
  unfold maxLen at hls
  clear hs hgl
  go_enter Tryd.func5, Tryd.ntmps5
  go_upto_region 3 with fail
  obtain ⟨w0, hw0⟩ : ∃ w0 : World, w0 = w.alloc (.cells #[.int .i64 x0, .int .i64 x1, .int .i64 x2] 52) := ⟨_, rfl⟩
  rw [← hw0]
  have HA0 := hid (show Blk w0 w.heap.size 52 #[.int .i64 x0, .int .i64 x1, .int .i64 x2] by rw [hw0]; exact Blk.new _ _ _)
  have Hb0 := hid (show Below w.heap.size w w0 by rw [hw0]; (repeat (first | with_reducible exact Below.refl _ _ | with_reducible assumption | (with_reducible refine Below.drew ?_) | (with_reducible refine Below.manyDrew ?_ _) | ((with_reducible refine Below.alloc ?_ ?_ _); rotate_left; (focus (first | omega | (dsimp only; omega) | (simp; done) | (simp; omega)))) | ((with_reducible refine Below.setCell ?_ ?_ _); rotate_left; (focus (first | omega | (dsimp only; omega) | (simp; done) | (simp; omega)))) | ((with_reducible refine Below.step ?_ (by assumption) ?_); rotate_left; (focus (first | omega | (dsimp only; omega) | (simp; done) | (simp; omega)))))))
  have hz0 := Hb0.out.size
  clear hw0
  obtain ⟨lk, hlk⟩ : ∃ lk, limR n = lk := ⟨_, rfl⟩
  have Hlk := hid hlk
  obtain ⟨lk, le⟩ := lk
  obtain ⟨nb, hnb⟩ : ∃ nb, nb = decide (n < 1 ∨ 6 < n) := ⟨_, rfl⟩
  have Hnb := hid hnb
  clear hnb
  go_cut [34] (fun t wx => t = .bool nb ∧ wx = w0)
  case first =>
    rcases (show n < 1 ∨ (1 ≤ n ∧ 6 < n) ∨ (1 ≤ n ∧ n ≤ 6) by omega) with h | ⟨h, h2⟩ | ⟨h, h2⟩
    all_goals
      clear hlk
      go_wp2_with fail
      go_meet
      exact ⟨by rw [Hnb.out]; simp; try omega, rfl⟩
  case rest =>
  obtain ⟨rfl, hwc⟩ := hcut
  obtain rfl : w0 = wc := hwc.symm
  go_upto_if 34 with fail
  go_cut [11, 12] (fun e want wx => e = .int .i64 le ∧ want = .int .i64 lk ∧ wx = w0)
  case first =>
    as_aux_lemma =>
    rcases (show n < 1 ∨ (1 ≤ n ∧ 6 < n) ∨ n = 1 ∨ n = 2 ∨ n = 3 ∨ n = 4 ∨ n = 5 ∨ n = 6 by omega) with h | ⟨h, h2⟩ | h | h | h | h | h | h
    · have hh := Hlk.out
      rw [limR, if_neg (by omega)] at hh
      injection hh with h1 h2
      subst h1 h2
      have hnb : nb = true := by rw [Hnb.out]; exact decide_eq_true (by omega)
      subst hnb
      clear hlk Hlk
      go_wp2_with fail
      go_meet
      exact ⟨rfl, rfl, rfl⟩
    · have hh := Hlk.out
      rw [limR, if_neg (by omega)] at hh
      injection hh with h1 h2
      subst h1 h2
      have hnb : nb = true := by rw [Hnb.out]; exact decide_eq_true (by omega)
      subst hnb
      clear hlk Hlk
      go_wp2_with fail
      go_meet
      exact ⟨rfl, rfl, rfl⟩
    all_goals
      have hh := Hlk.out
      subst h
      rw [limR, if_pos (by omega), limN] at hh
      simp only [Int.reduceLE, if_true, if_false, reduceIte] at hh
      injection hh with h1 h2
      subst h1 h2
      have hnb : nb = false := by rw [Hnb.out]; exact decide_eq_false (by omega)
      subst hnb
      clear hlk Hlk
      go_wp2_with fail
      refine wp_loop_rounds 5 ?_
      repeat (first | (rw [rounds_succ]; go_wp2; done) | (rw [rounds_succ]; go_wp2))
      go_meet
      exact ⟨rfl, rfl, rfl⟩
  case rest =>
  obtain ⟨rfl, rfl, hwc⟩ := hcut
  obtain rfl : w0 = wc := hwc.symm
  have HLim := hid (fun W => limit_any n W)
  rw [Hlk.out] at HLim
  clear hlk Hnb
  go_wp2_with fail
  refine (HLim.out _).mono ?_
  rintro e w' ⟨rfl, rfl⟩
  go_wp2_with fail
  refine (error_any le le _ (HG.out _ Hb0.out)).mono ?_
  rw [beq_self_eq_true]
  rintro e w1 ⟨rfl, hb1⟩
  have HA1 := hid (HA0.out.belowS hb1)
  have Hb1 := hid (Below.step Hb0.out hb1 hz0)
  have hz1 := Hb1.out.size
  have hlkb : (lk == lk) = true := beq_self_eq_true lk
  clear hb1
  go_wp2_with fail
  refine (rrumors_any s w1 (HS.out _ Hb1.out)).mono ?_
  rintro e w2 ⟨rfl, hb2⟩
  have hA2 := HA1.out.belowS hb2
  have HA2 := hid hA2
  have Hb2 := hid (Below.step Hb1.out hb2 hz1)
  have hz2 := Hb2.out.size
  have a0 : w2.cell? ⟨w.heap.size, 0, none⟩ = some (.int .i64 x0) := hA2.cell 0
  have a1 : w2.cell? ⟨w.heap.size, 1, none⟩ = some (.int .i64 x1) := hA2.cell 1
  have a2 : w2.cell? ⟨w.heap.size, 2, none⟩ = some (.int .i64 x2) := hA2.cell 2
  clear hb2 hA2 hlkb
  go_wp2_with fail
  refine (rmember_any x0 x1 x2 w2).mono ?_
  rintro e w3 ⟨rfl, hb3⟩
  have HA3 := hid (HA2.out.belowS hb3)
  have Hb3 := hid (Below.step Hb2.out hb3 hz2)
  have hz3 := Hb3.out.size
  clear hb3 a0 a1 a2
  obtain ⟨pb, hpb⟩ : ∃ pb, rightB ⟨x0, x1, x2⟩ = pb := ⟨_, rfl⟩
  rw [hpb]
  have Hpb := hid hpb
  clear hpb
  obtain ⟨b2, hbb2⟩ : ∃ b2, b2 = ((chkU s.xs == 0) && !pb) := ⟨_, rfl⟩
  have Hbb2 := hid hbb2
  clear hbb2
  go_upto_region 14 with fail
  go_cut [65] (fun t wx => t = .bool b2 ∧ wx = w3)
  case first =>
    as_aux_lemma =>
    rcases hcb : (chkU s.xs == 0) with _ | _
    all_goals
      have hb2 := Hbb2.out
      rw [hcb] at hb2
      have Hb2' := hid hb2
      clear hb2
      go_wp2_with fail
      all_goals
        go_meet
        exact ⟨by rw [Hb2'.out]; simp, rfl⟩
  case rest =>
  obtain ⟨rfl, hwc⟩ := hcut
  obtain rfl : w3 = wc := hwc.symm
  go_upto_if 65 with fail
  go_cut [11] (fun t wx => t = .int .i64 (addUR s.xs ⟨x0, x1, x2⟩).2 ∧ wx = w3)
  case first =>
    as_aux_lemma =>
    by_cases hc : chkU s.xs = 0
    · have hcb : (chkU s.xs == 0) = true := by rw [hc]; rfl
      have HC := hid hc
      rcases (show pb = false ∨ pb = true by cases pb <;> simp) with hp | hp
      · have hq : b2 = true := by rw [Hbb2.out, hcb, hp]; rfl
        subst hq
        have HF := hid (show (addUR s.xs ⟨x0, x1, x2⟩).2 = 1 by rw [addUR, if_pos hc, if_neg (by rw [Hpb.out, hp]; decide)])
        clear hc hp
        go_wp2_with fail
        go_meet
        exact ⟨by rw [HF.out], rfl⟩
      · have hq : b2 = false := by rw [Hbb2.out, hcb, hp]; rfl
        subst hq
        have HF := hid (show (addUR s.xs ⟨x0, x1, x2⟩).2 = 0 by rw [addUR, if_pos hc, if_pos (by rw [Hpb.out, hp])])
        clear hc hp
        go_wp2_with fail
        go_meet
        exact ⟨by rw [HF.out, HC.out], rfl⟩
    · have hcb : (chkU s.xs == 0) = false := by rw [beq_eq_false_iff_ne]; exact hc
      have hq : b2 = false := by rw [Hbb2.out, hcb]; rfl
      subst hq
      have HF := hid (show (addUR s.xs ⟨x0, x1, x2⟩).2 = chkU s.xs by rw [addUR, if_neg hc])
      clear hc
      go_wp2_with fail
      go_meet
      exact ⟨by rw [HF.out], rfl⟩
  case rest =>
  obtain ⟨rfl, hwc⟩ := hcut
  obtain rfl : w3 = wc := hwc.symm
  clear Hbb2
  go_upto_if 67 with fail
  go_cut [19, 20] (fun t u wx => URow wx t (addUR s.xs ⟨x0, x1, x2⟩).1.1 ∧ u = .bool (addUR s.xs ⟨x0, x1, x2⟩).1.2 ∧ Below w3.heap.size w3 wx)
  case first =>
    as_aux_lemma =>
    have hA3 := HA3.out
    have a0 : w3.cell? ⟨w.heap.size, 0, none⟩ = some (.int .i64 x0) := hA3.cell 0
    have a1 : w3.cell? ⟨w.heap.size, 1, none⟩ = some (.int .i64 x1) := hA3.cell 1
    have a2 : w3.cell? ⟨w.heap.size, 2, none⟩ = some (.int .i64 x2) := hA3.cell 2
    clear hA3
    by_cases h0 : (addUR s.xs ⟨x0, x1, x2⟩).2 = 0
    · have hcb : ((addUR s.xs ⟨x0, x1, x2⟩).2 == 0) = true := by rw [h0]; rfl
      obtain ⟨hc, hr, hA⟩ := addUR_zero h0
      have HAd := hid (rhear_any s x0 x1 x2 w3 (HS.out _ Hb3.out) hc hr)
      have HAe := hid hA
      clear h0 hc hr hA
      go_wp2_with fail
      refine HAd.out.mono ?_
      rintro e w4 ⟨q, rfl, hqx, hqA, hb4⟩
      have Hqx := hid hqx
      have HqA := hid hqA
      clear hqx hqA
      go_wp2_with fail
      go_meet
      rw [HAe.out]
      exact ⟨⟨q, rfl, Hqx.out, HqA.out⟩, rfl, hb4⟩
    · have hcb : ((addUR s.xs ⟨x0, x1, x2⟩).2 == 0) = false := by rw [beq_eq_false_iff_ne]; exact h0
      have HN := hid (addUR_err h0)
      clear h0
      go_wp2_with fail
      go_meet
      rw [HN.out]
      exact ⟨URow.nil _, rfl, Below.refl _ _⟩
  case rest =>
  obtain ⟨hRv, rfl, hb4⟩ := hcut
  obtain ⟨w4, rfl⟩ : ∃ w4 : World, w4 = wc := ⟨_, rfl⟩
  obtain ⟨r, rfl, hrx, hrA⟩ := hRv
  have hA4 := HA3.out.belowS hb4
  have Hb4 := hid (Below.step Hb3.out hb4 hz3)
  have hz4 := Hb4.out.size
  have Hrx := hid hrx
  have HrA := hid hrA
  have a0 : w4.cell? ⟨w.heap.size, 0, none⟩ = some (.int .i64 x0) := hA4.cell 0
  have a1 : w4.cell? ⟨w.heap.size, 1, none⟩ = some (.int .i64 x1) := hA4.cell 1
  have a2 : w4.cell? ⟨w.heap.size, 2, none⟩ = some (.int .i64 x2) := hA4.cell 2
  have HAd := hid (uadd_any s x0 x1 x2 w4 (HS.out _ Hb4.out))
  have Hgd := hid (addUR_good s.xs ⟨x0, x1, x2⟩)
  clear hb4 hA4 hrx hrA HA0 HA1 HA2 HA3
  generalize addUR s.xs ⟨x0, x1, x2⟩ = A at *
  obtain ⟨⟨L, ab⟩, ae⟩ := A
  go_wp2_with fail
  refine HAd.out.mono ?_
  rintro e w5 ⟨v5, rfl, hOw, hb5⟩
  obtain ⟨y, rfl, hyx, hyA⟩ := URow.of_ow hOw Hgd.out
  have Hb5 := hid (Below.step Hb4.out hb5 hz4)
  have hz5 := Hb5.out.size
  have HyA := hid hyA
  have Hyx := hid hyx
  have HrA5 := hid (HrA.out.stays hb5)
  clear hOw hb5 hyA hyx a0 a1 a2
  go_wp2_with fail
  refine (error_any _ _ w5 (HG.out _ Hb5.out)).mono ?_
  rw [beq_self_eq_true]
  rintro e w6 ⟨rfl, hb6⟩
  have Hb6 := hid (Below.step Hb5.out hb6 hz5)
  have hz6 := Hb6.out.size
  have HE := hid (rumors_any y r w6 (HyA.out.stays hb6) (HrA5.out.stays hb6))
  rw [Hyx.out, Hrx.out, eqsU_refl] at HE
  have hab : (ab == ab) = true := beq_self_eq_true ab
  clear hb6
  rw [Hyx.out, Hrx.out]
  go_wp2_with fail
  refine HE.out.mono ?_
  rintro e w7 ⟨rfl, hb7⟩
  have Hb7 := hid (Below.step Hb6.out hb7 hz6)
  have hz7 := Hb7.out.size
  clear hb7 HE hab
  obtain ⟨b3, hb3⟩ : ∃ b3, b3 = ((chkU s.xs == 0) && decide (many < 0 ∨ 6 < many ∨ limit < 1 ∨ 60 < limit)) := ⟨_, rfl⟩
  have Hb3' := hid hb3
  clear hb3
  go_upto_region 22 with fail
  go_cut [111] (fun t wx => t = .bool b3 ∧ wx = w7)
  case first =>
    as_aux_lemma =>
    rcases hcb : (chkU s.xs == 0) with _ | _
    · have hb2 := Hb3'.out
      rw [hcb, Bool.false_and] at hb2
      have Hb2' := hid hb2
      clear hb2
      go_wp2_with fail
      all_goals
        go_meet
        exact ⟨by rw [Hb2'.out], rfl⟩
    · have hb2 := Hb3'.out
      rw [hcb, Bool.true_and] at hb2
      have Hb2' := hid hb2
      clear hb2
      rcases (show many < 0 ∨ (0 ≤ many ∧ 6 < many) ∨ (0 ≤ many ∧ many ≤ 6 ∧ limit < 1) ∨ (0 ≤ many ∧ many ≤ 6 ∧ 1 ≤ limit ∧ 60 < limit) ∨ (0 ≤ many ∧ many ≤ 6 ∧ 1 ≤ limit ∧ limit ≤ 60) by omega) with h | ⟨h, h1⟩ | ⟨h, h1, h2⟩ | ⟨h, h1, h2, h3⟩ | ⟨h, h1, h2, h3⟩
      all_goals
        go_wp2_with fail
        go_meet
        refine ⟨?_, rfl⟩
        rw [Hb2'.out]
        first | (simp; done) | (congr 1; rw [Bool.eq_iff_iff]; simp; omega)
  case rest =>
  obtain ⟨rfl, hwc⟩ := hcut
  obtain rfl : w7 = wc := hwc.symm
  go_upto_if 111 with fail
  go_cut [17] (fun t wx => t = .int .i64 (pickUR s.xs many limit).2 ∧ wx = w7)
  case first =>
    as_aux_lemma =>
    by_cases hc : chkU s.xs = 0
    · have hcb : (chkU s.xs == 0) = true := by rw [hc]; rfl
      have HC := hid hc
      by_cases hm : 0 ≤ many ∧ many ≤ 6 ∧ 1 ≤ limit ∧ limit ≤ 60
      · have hq : b3 = false := by rw [Hb3'.out, hcb, Bool.true_and]; exact decide_eq_false (by omega)
        subst hq
        have HF := hid (show (pickUR s.xs many limit).2 = 0 by rw [pickUR, if_pos hc, if_pos hm])
        clear hc hm
        go_wp2_with fail
        go_meet
        exact ⟨by rw [HF.out, HC.out], rfl⟩
      · have hq : b3 = true := by rw [Hb3'.out, hcb, Bool.true_and]; exact decide_eq_true (by omega)
        subst hq
        have HF := hid (show (pickUR s.xs many limit).2 = 1 by rw [pickUR, if_pos hc, if_neg hm])
        clear hc hm
        go_wp2_with fail
        go_meet
        exact ⟨by rw [HF.out], rfl⟩
    · have hcb : (chkU s.xs == 0) = false := by rw [beq_eq_false_iff_ne]; exact hc
      have hq : b3 = false := by rw [Hb3'.out, hcb]; rfl
      subst hq
      have HF := hid (show (pickUR s.xs many limit).2 = chkU s.xs by rw [pickUR, if_neg hc])
      clear hc
      go_wp2_with fail
      go_meet
      exact ⟨by rw [HF.out], rfl⟩
  case rest =>
  obtain ⟨rfl, hwc⟩ := hcut
  obtain rfl : w7 = wc := hwc.symm
  clear Hb3'
  go_upto_if 113 with fail
  go_cut [24, 25] (fun t u wx => MRow wx t (pickUR s.xs many limit).1.1 ∧ URow wx u (pickUR s.xs many limit).1.2 ∧ Below w7.heap.size w7 wx)
  case first =>
    as_aux_lemma =>
    by_cases h0 : (pickUR s.xs many limit).2 = 0
    · have hcb : ((pickUR s.xs many limit).2 == 0) = true := by rw [h0]; rfl
      obtain ⟨hc, ⟨m0, m1, m2, m3⟩, hP⟩ := pickUR_zero h0
      have Hgg := hid (pickU_good (k := many.toNat) hc m3)
      have HP := hid hP
      obtain ⟨k, rfl⟩ := Int.eq_ofNat_of_zero_le m0
      have HAd := hid (rpick_any s k limit w7 (HS.out _ Hb7.out) hc (by omega) m3)
      rw [Int.toNat_natCast] at HP Hgg
      clear h0 hc hP m0 m1 m2 m3
      go_wp2_with fail
      refine HAd.out.mono ?_
      rintro e w8 ⟨v8, u8, rfl, hO8, hU8, hb8⟩
      have HO8 := hid (MRow.of_ow hO8 Hgg.out.1)
      have HU8 := hid (URow.of_ow hU8 Hgg.out.2)
      clear hO8 hU8
      go_wp2_with fail
      go_meet
      rw [HP.out]
      exact ⟨HO8.out, HU8.out, hb8⟩
    · have hcb : ((pickUR s.xs many limit).2 == 0) = false := by rw [beq_eq_false_iff_ne]; exact h0
      have HN := hid (pickUR_err h0)
      clear h0
      go_wp2_with fail
      go_meet
      rw [HN.out]
      exact ⟨MRow.nil _, URow.nil _, Below.refl _ _⟩
  case rest =>
  obtain ⟨⟨q, rfl, hqx, hqA⟩, ⟨t, rfl, htx, htA⟩, hb8⟩ := hcut
  obtain ⟨w8, rfl⟩ : ∃ w8 : World, w8 = wc := ⟨_, rfl⟩
  have Hb8 := hid (Below.step Hb7.out hb8 hz7)
  have hz8 := Hb8.out.size
  have Hqx := hid hqx
  have HqA := hid hqA
  have Htx := hid htx
  have HtA := hid htA
  have HPk := hid (upick_any s many limit w8 (HS.out _ Hb8.out))
  have Hgp := hid (pickUR_good s.xs many limit)
  clear hb8 hqx hqA htx htA
  generalize pickUR s.xs many limit = P at *
  obtain ⟨⟨LM, LU⟩, pe⟩ := P
  go_wp2_with fail
  refine HPk.out.mono ?_
  rintro e w9 ⟨v9, u9, rfl, hO9, hU9, hb9⟩
  obtain ⟨y9, rfl, hyx9, hyA9⟩ := MRow.of_ow hO9 Hgp.out.1
  obtain ⟨z9, rfl, hzx9, hzA9⟩ := URow.of_ow hU9 Hgp.out.2
  have Hb9 := hid (Below.step Hb8.out hb9 hz8)
  have hz9 := Hb9.out.size
  have HyA9 := hid hyA9
  have Hyx9 := hid hyx9
  have HzA9 := hid hzA9
  have Hzx9 := hid hzx9
  have HqA9 := hid (HqA.out.stays hb9)
  have HtA9 := hid (HtA.out.stays hb9)
  clear hO9 hU9 hb9 hyA9 hyx9 hzA9 hzx9
  go_wp2_with fail
  refine (error_any _ _ w9 (HG.out _ Hb9.out)).mono ?_
  rw [beq_self_eq_true]
  rintro e w10 ⟨rfl, hb10⟩
  have Hb10 := hid (Below.step Hb9.out hb10 hz9)
  have hz10 := Hb10.out.size
  have HE1 := hid (members_any y9 q w10 (HyA9.out.stays hb10) (HqA9.out.stays hb10))
  rw [Hyx9.out, Hqx.out, eqsM_refl] at HE1
  have HE2 := hid (fun W (hW : Below w10.heap.size w10 W) => rumors_any z9 t W ((HzA9.out.stays hb10).stays hW) ((HtA9.out.stays hb10).stays hW))
  rw [Hzx9.out, Htx.out, eqsU_refl] at HE2
  clear hb10
  rw [Hyx9.out, Hqx.out, Hzx9.out, Htx.out]
  go_wp2_with fail
  refine HE1.out.mono ?_
  rintro e w11 ⟨rfl, hb11⟩
  have Hb11 := hid (Below.step Hb10.out hb11 hz10)
  have hz11 := Hb11.out.size
  have HE3 := hid (HE2.out w11 hb11)
  clear hb11 HE1
  go_wp2_with fail
  refine HE3.out.mono ?_
  rintro e w12 ⟨rfl, hb12⟩
  have Hb12 := hid (Below.step Hb11.out hb12 hz11)
  clear hb12
  go_wp2_with fail
  go_ret
  exact ⟨rfl, Hb12.out⟩

theorem trodAll_fiveU {H : Type} {enc : TypeId × Value → H} {P : Program} {w : World} {base : Nat} {sp : Nat → Bool} {held : Bool} {t t' t'' t3 t4 : TypeId} {args : Array Value} {ds : List (DataW H)} {ps : List MemPlace} (h : DataW.TrodAll enc P w base sp held [t, t', t'', t3, t4] args.toList ds ps) :
    ∃ v v' v'' v3 v4 d d' d'' d3 d4 p p' p'' p3 p4, args = #[v, v', v'', v3, v4] ∧ ds = [d, d', d'', d3, d4] ∧ ps = p ++ (p' ++ (p'' ++ (p3 ++ (p4 ++ [])))) ∧ DataW.Trod enc P w base sp held t v d p ∧ DataW.Trod enc P w base sp held t' v' d' p' ∧ DataW.Trod enc P w base sp held t'' v'' d'' p'' ∧ DataW.Trod enc P w base sp held t3 v3 d3 p3 ∧ DataW.Trod enc P w base sp held t4 v4 d4 p4 := by
  obtain ⟨v, vs, d, ds', p, q, e1, rfl, rfl, h1, h⟩ := trodAll_cons h
  obtain ⟨v', vs', d', ds'', p', q', rfl, rfl, rfl, h2, h⟩ := trodAll_cons h
  obtain ⟨v'', vs'', d'', ds3, p'', q'', rfl, rfl, rfl, h3, h⟩ := trodAll_cons h
  obtain ⟨v3, vs3, d3, ds4, p3, q3, rfl, rfl, rfl, h4, h⟩ := trodAll_cons h
  obtain ⟨v4, vs4, d4, ds5, p4, q4, rfl, rfl, rfl, h5, h⟩ := trodAll_cons h
  obtain ⟨rfl, rfl, rfl⟩ := trodAll_nil h
  refine ⟨v, v', v'', v3, v4, d, d', d'', d3, d4, p, p', p'', p3, p4, ?_, rfl, rfl, h1, h2, h3, h4, h5⟩
  exact Array.toList_inj.1 (by simpa using e1)

set_option maxRecDepth 100000 in
theorem rumorTells_walk : LawWalk Tryd.prog 5 Tryd.f5 Gl := by
  intro W base args H enc ds p hval hA hgl
  rw [Tryd.params5] at hA hval
  obtain ⟨v0, v1, v2, v3, v4, d0, d1, d2, d3, d4, p0, p1, p2, p3, p4, rfl, rfl, rfl, h0, h1, h2, h3, h4⟩ := trodAll_fiveU hA
  obtain ⟨n, rfl, _⟩ := arg_int Tryd.underlying3 (hval 0 3 v0 rfl rfl) h0
  obtain ⟨s, rfl, hs⟩ := arg_slice Tryd.underlying68 codecU (pos_of_eq Tryd.cellsU (by decide)) (hval 1 68 v1 rfl rfl) h1
  obtain ⟨⟨x0, x1, x2⟩, rfl, hx⟩ := arg_struct Tryd.underlying52 codecM (hval 2 52 v2 rfl rfl) h2
  obtain ⟨many, rfl, _⟩ := arg_int Tryd.underlying3 (hval 3 3 v3 rfl rfl) h3
  obtain ⟨limit, rfl, _⟩ := arg_int Tryd.underlying3 (hval 4 3 v4 rfl rfl) h4
  exact rumorTells_any n s x0 x1 x2 many limit W (UsAt_of hs) hgl

set_option maxRecDepth 100000 in
theorem rumorTells_lifted (os : Os) (started : os.Started) (H : Type) (enc : TypeId × Value → H) :
    ReturnsInHanded {} Tryd.checked os 5 .any (fun w args => (Rows.rumorTellsSpec.pre enc Tryd.checked.prog Tryd.f5 [] false w args ∧ laidMetH Tryd.prog theLaid w) ∧ sizedMet enc Tryd.checked.prog Tryd.f5 (OpenSpec.ofChange Rows.rumorTellsSpec) false w args) (Rows.rumorTellsSpec.post enc Tryd.checked.prog Tryd.f5 false true false false) :=
  laid_lifted (C := Tryd.checked) theLaid (fun _ h => handle_of_laid h) [] Tryd.own started (by kernel_rfl) Tryd.func5 Tryd.laidOut (by kernel_rfl) rfl Tryd.underlying4 rfl (fun ds h => by match ds, h with | [_, _, _, _, _], _ => rfl)
    (ChangeSpec.witness_at (enc := enc) (C := Tryd.checked) (os := os) (X := fun w _ => laidMetH Tryd.prog theLaid w) false (laidWorld os) #[.int .i64 0, .slice none 0 0, .agg #[.int .i64 0, .int .i64 0, .int .i64 0], .int .i64 0, .int .i64 0] 8 rfl (by kernel_rfl) (by kernel_rfl) (by kernel_rfl) (by kernel_rfl) (by kernel_rfl) (laidWorld_met os _)) rumorTells_walk

theorem rumorTells_row : Rows.RumorTellsSaid :=
  OpenClaim.holds_of_wide 5 Tryd.f5 rfl rfl rfl rfl rfl rfl rfl ⟨rfl, rfl, rfl, rfl, rfl⟩ rfl rfl rfl rfl rfl (by kernel_rfl) Tryd.func5 (by kernel_rfl)
    (of_decide_eq_true (by kernel_rfl)) (by unfold Func.isWrapper; rw [if_neg (of_decide_eq_false (by kernel_rfl))]; exact ⟨rfl, rfl⟩)
    (fun os started H enc _ => rumorTells_lifted os started H enc)

theorem rumorTells_holds : Rows.RumorTellsCardSaid :=
  Claim7.holds_tied_plain_at .later [] [.handle] true _ true
    rumorTells_row (fun _ h => by cases h) (by kernel_rfl) (fun _ h => by cases h) rumorTells_row_tie rfl ⟨rfl, rfl⟩ (by kernel_rfl) rfl
    (fun f fn hf hfn => by
      obtain rfl : f = 5 := Option.some.inj ((show Tryd.prog.funcNamed "beaconmere/merelaw2.RumorTells" = some 5 by kernel_rfl).symm.trans hf) |>.symm
      obtain rfl : fn = Tryd.f5 := (Option.some.inj (Tryd.func5.symm.trans hfn)).symm
      refine ⟨by kernel_rfl, fun j t ht => ?_⟩
      have hall : Tryd.f5.params.toList.all (fun t => !Tryd.prog.wantsStandIn t) = true := by kernel_rfl
      have hm : t ∈ Tryd.f5.params.toList := by
        obtain ⟨hj, hje⟩ := Array.getElem?_eq_some_iff.1 ht
        rw [← hje]
        exact Array.mem_toList_iff.2 (Array.getElem_mem hj)
      have := List.all_eq_true.1 hall t hm
      exact (show Tryd.prog.wantsStandIn t = false by simpa using this))
    (by kernel_rfl)

end Go.Proofs.YtgamocljdbffpaaDoor
