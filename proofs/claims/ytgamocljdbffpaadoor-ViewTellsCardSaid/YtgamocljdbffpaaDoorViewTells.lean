/-
  PROVED HERE: merelaw2.ViewTells returns true: which of any two members is newer, any added to any view, both of any two, and what any answers are as the document says. CONDITIONS: errors.errorType as the program's text lays it (tied by the card).
-/
import Derived.Test.YtgamocljdbffpaaDoorRVAdd
import Derived.Test.YtgamocljdbffpaaDoorVAns
import Derived.Test.YtgamocljdbffpaaDoorMLd
import Derived.Test.YtgamocljdbffpaaDoorDoor
import Derived.Deep.DeepCutAuto
import Derived.Deep.CutBlock
namespace Go.Proofs.YtgamocljdbffpaaDoor
open Go.RowKit
open Go.ChangeShapes Go.WideShapes Go.ChangeAt

theorem addVR_good (l : List M) (m : M) : ∀ y ∈ (addVR l m).1.1, y.good := by
  unfold addVR
  split
  · rename_i h1
    split
    · rename_i h2
      exact vval_good (addV_key h1 h2).1
    · simp
  · simp
theorem bothV_good (l m : List M) : ∀ y ∈ (bothV l m).1, y.good := by
  unfold bothV
  split
  · rename_i h1
    split
    · rename_i h2
      exact vval_good (allV_key h1 h2).1
    · simp
  · simp
theorem MRow.nil (w : World) : MRow w (.slice none 0 0) [] := ⟨⟨none, 0, []⟩, rfl, rfl, MsAt.empty _ _ _⟩
theorem MRow.stays {w w' : World} {v : Value} {l : List M} (h : MRow w v l) (hb : Below w.heap.size w w') : MRow w' v l := by
  obtain ⟨r, h1, h2, h3⟩ := h
  exact ⟨r, h1, h2, h3.stays hb⟩

theorem answer_gd (l : List M) (n : Int) : ∀ y ∈ (answerR l n).1, y.good := by
  by_cases hc : chkV l = 0
  · rcases (show nodeB n = false ∨ nodeB n = true by cases nodeB n <;> simp) with hn | hn
    · rw [ans_bad hc hn]; simp
    · rw [ans_ref hc hn]
      unfold refL
      split
      · intro y hy
        obtain ⟨z, hz, rfl⟩ := List.mem_map.1 hy
        have hr := rightB_true.1 ((vval_iff.1 hc).2 z hz)
        have hg := vval_good hc z hz
        unfold updM
        split
        · split
          · exact hg
          · split
            · exact hg
            · exact right_good (rightB_true.2 ⟨by simpa using hr.1, by
                have h1 := hr.2.1
                rename_i h2
                simp only
                omega, by simp⟩)
        · exact hg
      · simp
  · rw [ans_no hc]; simp

set_option maxHeartbeats 32000000 in
set_option maxRecDepth 100000 in
theorem viewTells_any (x0 x1 x2 y0 y1 y2 : Int) (s m : SlV M) (n : Int) (w : World) (hs : MsAt w s) (hm : MsAt w m) (hgl : Gl w) :
    Calls Tryd.prog 4 #[.agg #[.int .i64 x0, .int .i64 x1, .int .i64 x2], .agg #[.int .i64 y0, .int .i64 y1, .int .i64 y2], .slice s.A s.xs.length s.c, .slice m.A m.xs.length m.c, .int .i64 n] w fun e w' => e = .returned (.bool true) ∧ Below w.heap.size w w' := by
  have HS := hid (fun W (hW : Below w.heap.size w W) => hs.stays hW)
  have HM := hid (fun W (hW : Below w.heap.size w W) => hm.stays hW)
  have HG := hid (fun W (hW : Below w.heap.size w W) => hgl.belowS hW)
  have hls := hs.len
  have hlm := hm.len
  unfold maxLen at hls hlm
  clear hs hm hgl
  go_enter Tryd.func4, Tryd.ntmps4
  go_wp2_with fail
  obtain ⟨w0, hw0⟩ : ∃ w0 : World, w0 = (w.alloc (.cells #[.int .i64 x0, .int .i64 x1, .int .i64 x2] 52)).alloc (.cells #[.int .i64 y0, .int .i64 y1, .int .i64 y2] 52) := ⟨_, rfl⟩
  rw [← hw0]
  have HA0 := hid (show Blk w0 w.heap.size 52 #[.int .i64 x0, .int .i64 x1, .int .i64 x2] by rw [hw0]; exact (Blk.new _ _ _).alloc _)
  have HB0 := hid (show Blk w0 (w.heap.size + 1) 52 #[.int .i64 y0, .int .i64 y1, .int .i64 y2] by rw [hw0]; exact Blk.new_at (by simp))
  have Hb0 := hid (show Below w.heap.size w w0 by rw [hw0]; (repeat (first | with_reducible exact Below.refl _ _ | with_reducible assumption | (with_reducible refine Below.drew ?_) | (with_reducible refine Below.manyDrew ?_ _) | ((with_reducible refine Below.alloc ?_ ?_ _); rotate_left; (focus (first | omega | (dsimp only; omega) | (simp; done) | (simp; omega)))) | ((with_reducible refine Below.setCell ?_ ?_ _); rotate_left; (focus (first | omega | (dsimp only; omega) | (simp; done) | (simp; omega)))) | ((with_reducible refine Below.step ?_ (by assumption) ?_); rotate_left; (focus (first | omega | (dsimp only; omega) | (simp; done) | (simp; omega)))))))
  have hz0 := Hb0.out.size
  clear hw0
  refine (rmember_any x0 x1 x2 w0).mono ?_
  rintro e w1 ⟨rfl, hb1⟩
  have HA1 := hid (HA0.out.belowS hb1)
  have hB1 := HB0.out.belowS hb1
  have HB1 := hid hB1
  have Hb1 := hid (Below.step Hb0.out hb1 hz0)
  have hz1 := Hb1.out.size
  have d0 : w1.cell? ⟨w.heap.size + 1, 0, none⟩ = some (.int .i64 y0) := hB1.cell 0
  have d1 : w1.cell? ⟨w.heap.size + 1, 1, none⟩ = some (.int .i64 y1) := hB1.cell 1
  have d2 : w1.cell? ⟨w.heap.size + 1, 2, none⟩ = some (.int .i64 y2) := hB1.cell 2
  clear hb1 hB1
  go_wp2_with fail
  refine (rmember_any y0 y1 y2 w1).mono ?_
  rintro e w2 ⟨rfl, hb2⟩
  have hA2 := HA1.out.belowS hb2
  have hB2 := HB1.out.belowS hb2
  have HA2 := hid hA2
  have HB2 := hid hB2
  have Hb2 := hid (Below.step Hb1.out hb2 hz1)
  have hz2 := Hb2.out.size
  clear d0 d1 d2
  have a0 : w2.cell? ⟨w.heap.size, 0, none⟩ = some (.int .i64 x0) := hA2.cell 0
  have a1 : w2.cell? ⟨w.heap.size, 1, none⟩ = some (.int .i64 x1) := hA2.cell 1
  have a2 : w2.cell? ⟨w.heap.size, 2, none⟩ = some (.int .i64 x2) := hA2.cell 2
  have d0 : w2.cell? ⟨w.heap.size + 1, 0, none⟩ = some (.int .i64 y0) := hB2.cell 0
  have d1 : w2.cell? ⟨w.heap.size + 1, 1, none⟩ = some (.int .i64 y1) := hB2.cell 1
  have d2 : w2.cell? ⟨w.heap.size + 1, 2, none⟩ = some (.int .i64 y2) := hB2.cell 2
  have hl2 := hB2.lt
  clear hb2 hA2 hB2 HA0 HA1 HB0 HB1
  go_upto_region 5 with fail
  obtain ⟨pb, hpb⟩ : ∃ pb, rightB ⟨x0, x1, x2⟩ = pb := ⟨_, rfl⟩
  obtain ⟨qb, hqb⟩ : ∃ qb, rightB ⟨y0, y1, y2⟩ = qb := ⟨_, rfl⟩
  rw [hpb, hqb]
  have Hpb := hid hpb
  have Hqb := hid hqb
  clear hpb hqb
  obtain ⟨bb, hbb⟩ : ∃ bb, bb = (!pb || !qb) := ⟨_, rfl⟩
  have Hbb := hid hbb
  clear hbb
  go_cut [37] (fun t wx => t = .bool bb ∧ wx = w2)
  case first =>
    as_aux_lemma =>
    have hb2 := Hbb.out
    have Hb2 := hid hb2
    clear hb2
    rcases (show pb = false ∨ (pb = true ∧ qb = false) ∨ (pb = true ∧ qb = true) by cases pb <;> cases qb <;> simp) with h | ⟨h, h'⟩ | ⟨h, h'⟩
    all_goals
      go_wp2_with fail
      all_goals
        go_meet
        exact ⟨by rw [Hb2.out]; simp [*], rfl⟩
  case rest =>
  obtain ⟨rfl, hwc⟩ := hcut
  obtain rfl : w2 = wc := hwc.symm
  go_upto_if 37 with fail
  go_cut [11, 14] (fun t u wx => t = .int .i64 (newerR ⟨x0, x1, x2⟩ ⟨y0, y1, y2⟩).2 ∧ u = .bool (newerR ⟨x0, x1, x2⟩ ⟨y0, y1, y2⟩).1 ∧ Below w2.heap.size w2 wx)
  case first =>
    as_aux_lemma =>
    rcases (show (pb = false ∨ qb = false) ∨ (pb = true ∧ qb = true) by cases pb <;> cases qb <;> simp) with h | ⟨h, h'⟩
    · have HN := hid (show newerR ⟨x0, x1, x2⟩ ⟨y0, y1, y2⟩ = (false, 1) by
        rcases h with h | h
        · rw [newerR, if_neg (by rw [Hpb.out, h]; decide)]
        · by_cases hp : rightB ⟨x0, x1, x2⟩ = true
          · rw [newerR, if_pos hp, if_neg (by rw [Hqb.out, h]; decide)]
          · rw [newerR, if_neg hp])
      have hq : bb = true := by rw [Hbb.out]; rcases h with h | h <;> rw [h] <;> simp
      subst hq
      clear h
      go_wp2_with fail
      go_meet
      rw [HN.out]
      exact ⟨rfl, rfl, Below.refl _ _⟩
    · have hq : bb = false := by rw [Hbb.out, h, h']; rfl
      subst hq
      by_cases h3 : x0 = y0
      · have HN := hid (show newerR ⟨x0, x1, x2⟩ ⟨y0, y1, y2⟩ = (aboveB ⟨x0, x1, x2⟩ ⟨y0, y1, y2⟩, 0) by
          rw [newerR, if_pos (by rw [Hpb.out, h]), if_pos (by rw [Hqb.out, h']), if_pos h3])
        have h3b : (x0 == y0) = true := by rw [beq_iff_eq]; exact h3
        clear h h' h3
        go_wp2_with fail
        refine (rnewer_any x0 x1 x2 y0 y1 y2 w2).mono ?_
        rintro e w3 ⟨rfl, hb3⟩
        go_wp2_with fail
        go_meet
        rw [HN.out]
        exact ⟨rfl, rfl, hb3⟩
      · have HN := hid (show newerR ⟨x0, x1, x2⟩ ⟨y0, y1, y2⟩ = (false, 3) by
          rw [newerR, if_pos (by rw [Hpb.out, h]), if_pos (by rw [Hqb.out, h']), if_neg h3])
        have h3b : (x0 == y0) = false := by rw [beq_eq_false_iff_ne]; exact h3
        clear h h' h3
        go_wp2_with fail
        go_meet
        rw [HN.out]
        exact ⟨rfl, rfl, Below.refl _ _⟩
  case rest =>
  obtain ⟨rfl, rfl, hb3⟩ := hcut
  obtain ⟨w3, rfl⟩ : ∃ w3 : World, w3 = wc := ⟨_, rfl⟩
  have hA3 := HA2.out.belowS hb3
  have hB3 := HB2.out.belowS hb3
  have HA3 := hid hA3
  have Hb3 := hid (Below.step Hb2.out hb3 hz2)
  have hz3 := Hb3.out.size
  clear a0 a1 a2 d0 d1 d2 Hbb hl2
  have a0 : w3.cell? ⟨w.heap.size, 0, none⟩ = some (.int .i64 x0) := hA3.cell 0
  have a1 : w3.cell? ⟨w.heap.size, 1, none⟩ = some (.int .i64 x1) := hA3.cell 1
  have a2 : w3.cell? ⟨w.heap.size, 2, none⟩ = some (.int .i64 x2) := hA3.cell 2
  have d0 : w3.cell? ⟨w.heap.size + 1, 0, none⟩ = some (.int .i64 y0) := hB3.cell 0
  have d1 : w3.cell? ⟨w.heap.size + 1, 1, none⟩ = some (.int .i64 y1) := hB3.cell 1
  have d2 : w3.cell? ⟨w.heap.size + 1, 2, none⟩ = some (.int .i64 y2) := hB3.cell 2
  have HNw := hid (newer_any x0 x1 x2 y0 y1 y2 w3)
  clear hb3 hA3 hB3 HB2
  generalize newerR ⟨x0, x1, x2⟩ ⟨y0, y1, y2⟩ = N at *
  obtain ⟨nb, ne⟩ := N
  go_wp2_with fail
  refine HNw.out.mono ?_
  rintro e w4 ⟨rfl, hb4⟩
  have HA4 := hid (HA3.out.belowS hb4)
  have Hb4 := hid (Below.step Hb3.out hb4 hz3)
  have hz4 := Hb4.out.size
  have hnb : (nb == nb) = true := beq_self_eq_true nb
  clear hb4 a0 a1 a2 d0 d1 d2
  go_wp2_with fail
  refine (error_any _ _ w4 (HG.out _ Hb4.out)).mono ?_
  rw [beq_self_eq_true]
  rintro e w5 ⟨rfl, hb5⟩
  have HA5 := hid (HA4.out.belowS hb5)
  have Hb5 := hid (Below.step Hb4.out hb5 hz4)
  have hz5 := Hb5.out.size
  clear hb5
  go_wp2_with fail
  refine (rview_any s w5 (HS.out _ Hb5.out)).mono ?_
  rintro e w6 ⟨rfl, hb6⟩
  have HA6 := hid (HA5.out.belowS hb6)
  have Hb6 := hid (Below.step Hb5.out hb6 hz5)
  have hz6 := Hb6.out.size
  clear hb6
  go_upto_region 14 with fail
  obtain ⟨b2, hbb2⟩ : ∃ b2, b2 = ((chkV s.xs == 0) && !pb) := ⟨_, rfl⟩
  have Hbb2 := hid hbb2
  clear hbb2
  go_cut [68] (fun t wx => t = .bool b2 ∧ wx = w6)
  case first =>
    as_aux_lemma =>
    rcases hcb : (chkV s.xs == 0) with _ | _
    all_goals
      have hb2 := Hbb2.out
      rw [hcb] at hb2
      have Hb2' := hid hb2
      clear hb2
      go_wp2_with fail
      all_goals
        go_meet
        exact ⟨by rw [Hb2'.out]; simp, rfl⟩
  case rest =>
  obtain ⟨rfl, hwc⟩ := hcut
  obtain rfl : w6 = wc := hwc.symm
  go_upto_if 68 with fail
  go_cut [11] (fun t wx => t = .int .i64 (addVR s.xs ⟨x0, x1, x2⟩).2 ∧ wx = w6)
  case first =>
    as_aux_lemma =>
    by_cases hc : chkV s.xs = 0
    · have hcb : (chkV s.xs == 0) = true := by rw [hc]; rfl
      have HC := hid hc
      rcases (show pb = false ∨ pb = true by cases pb <;> simp) with hp | hp
      · have hq : b2 = true := by rw [Hbb2.out, hcb, hp]; rfl
        subst hq
        have HF := hid (show (addVR s.xs ⟨x0, x1, x2⟩).2 = 1 by rw [addVR, if_pos hc, if_neg (by rw [Hpb.out, hp]; decide)])
        clear hc hp
        go_wp2_with fail
        go_meet
        exact ⟨by rw [HF.out], rfl⟩
      · have hq : b2 = false := by rw [Hbb2.out, hcb, hp]; rfl
        subst hq
        have HF := hid (show (addVR s.xs ⟨x0, x1, x2⟩).2 = 0 by rw [addVR, if_pos hc, if_pos (by rw [Hpb.out, hp])])
        clear hc hp
        go_wp2_with fail
        go_meet
        exact ⟨by rw [HF.out, HC.out], rfl⟩
    · have hcb : (chkV s.xs == 0) = false := by rw [beq_eq_false_iff_ne]; exact hc
      have hq : b2 = false := by rw [Hbb2.out, hcb]; rfl
      subst hq
      have HF := hid (show (addVR s.xs ⟨x0, x1, x2⟩).2 = chkV s.xs by rw [addVR, if_neg hc])
      clear hc
      go_wp2_with fail
      go_meet
      exact ⟨by rw [HF.out], rfl⟩
  case rest =>
  obtain ⟨rfl, hwc⟩ := hcut
  obtain rfl : w6 = wc := hwc.symm
  clear Hbb2
  go_upto_if 70 with fail
  go_cut [19, 20] (fun t u wx => MRow wx t (addVR s.xs ⟨x0, x1, x2⟩).1.1 ∧ u = .bool (addVR s.xs ⟨x0, x1, x2⟩).1.2 ∧ Below w6.heap.size w6 wx)
  case first =>
    as_aux_lemma =>
    have hA6 := HA6.out
    have a0 : w6.cell? ⟨w.heap.size, 0, none⟩ = some (.int .i64 x0) := hA6.cell 0
    have a1 : w6.cell? ⟨w.heap.size, 1, none⟩ = some (.int .i64 x1) := hA6.cell 1
    have a2 : w6.cell? ⟨w.heap.size, 2, none⟩ = some (.int .i64 x2) := hA6.cell 2
    clear hA6
    by_cases h0 : (addVR s.xs ⟨x0, x1, x2⟩).2 = 0
    · have hcb : ((addVR s.xs ⟨x0, x1, x2⟩).2 == 0) = true := by rw [h0]; rfl
      obtain ⟨hc, hr, hA⟩ : chkV s.xs = 0 ∧ rightB ⟨x0, x1, x2⟩ = true ∧ (addVR s.xs ⟨x0, x1, x2⟩).1 = addV s.xs ⟨x0, x1, x2⟩ := by
        unfold addVR at h0 ⊢
        split at h0
        · rename_i h1
          split at h0
          · rename_i h2
            exact ⟨h1, h2, by rw [if_pos h1, if_pos h2]⟩
          · cases h0
        · rename_i h1
          exact absurd h0 h1
      have HAd := hid (rvadd_any s x0 x1 x2 w6 (HS.out _ Hb6.out) hc hr)
      have HAe := hid hA
      clear h0 hc hr hA
      go_wp2_with fail
      refine HAd.out.mono ?_
      rintro e w7 ⟨q, rfl, hqx, hqA, hb7⟩
      have Hqx := hid hqx
      have HqA := hid hqA
      clear hqx hqA
      go_wp2_with fail
      go_meet
      rw [HAe.out]
      exact ⟨⟨q, rfl, Hqx.out, HqA.out⟩, rfl, hb7⟩
    · have hcb : ((addVR s.xs ⟨x0, x1, x2⟩).2 == 0) = false := by rw [beq_eq_false_iff_ne]; exact h0
      have HN := hid (show (addVR s.xs ⟨x0, x1, x2⟩).1 = ([], false) by
        unfold addVR at h0 ⊢
        split
        · rename_i h1
          rw [if_pos h1] at h0
          split
          · rename_i h2
            rw [if_pos h2] at h0
            exact absurd rfl h0
          · rfl
        · rfl)
      clear h0
      go_wp2_with fail
      go_meet
      rw [HN.out]
      exact ⟨MRow.nil _, rfl, Below.refl _ _⟩
  case rest =>
  obtain ⟨hRv, rfl, hb7⟩ := hcut
  obtain ⟨w7, rfl⟩ : ∃ w7 : World, w7 = wc := ⟨_, rfl⟩
  obtain ⟨r, rfl, hrx, hrA⟩ := hRv
  have hA7 := HA6.out.belowS hb7
  have Hb7 := hid (Below.step Hb6.out hb7 hz6)
  have hz7 := Hb7.out.size
  have Hrx := hid hrx
  have HrA := hid hrA
  have a0 : w7.cell? ⟨w.heap.size, 0, none⟩ = some (.int .i64 x0) := hA7.cell 0
  have a1 : w7.cell? ⟨w.heap.size, 1, none⟩ = some (.int .i64 x1) := hA7.cell 1
  have a2 : w7.cell? ⟨w.heap.size, 2, none⟩ = some (.int .i64 x2) := hA7.cell 2
  have HAd := hid (vadd_any s x0 x1 x2 w7 (HS.out _ Hb7.out))
  have Hgd := hid (addVR_good s.xs ⟨x0, x1, x2⟩)
  clear hb7 hA7 hrx hrA HA3 HA4 HA5 HA6
  generalize addVR s.xs ⟨x0, x1, x2⟩ = A at *
  obtain ⟨⟨L, ab⟩, ae⟩ := A
  go_wp2_with fail
  refine HAd.out.mono ?_
  rintro e w8 ⟨v8, rfl, hOw, hb8⟩
  obtain ⟨y, rfl, hyx, hyA⟩ := MRow.of_ow hOw Hgd.out
  have Hb8 := hid (Below.step Hb7.out hb8 hz7)
  have hz8 := Hb8.out.size
  have HyA := hid hyA
  have Hyx := hid hyx
  have HrA8 := hid (HrA.out.stays hb8)
  clear hOw hb8 hyA hyx a0 a1 a2
  go_wp2_with fail
  refine (error_any _ _ w8 (HG.out _ Hb8.out)).mono ?_
  rw [beq_self_eq_true]
  rintro e w9 ⟨rfl, hb9⟩
  have Hb9 := hid (Below.step Hb8.out hb9 hz8)
  have hz9 := Hb9.out.size
  have HE := hid (members_any y r w9 (HyA.out.stays hb9) (HrA8.out.stays hb9))
  rw [Hyx.out, Hrx.out, eqsM_refl] at HE
  have hab : (ab == ab) = true := beq_self_eq_true ab
  clear hb9
  rw [Hyx.out, Hrx.out]
  go_wp2_with fail
  refine HE.out.mono ?_
  rintro e w10 ⟨rfl, hb10⟩
  have Hb10 := hid (Below.step Hb9.out hb10 hz9)
  have hz10 := Hb10.out.size
  clear hb10 HE
  go_upto_if 99 with fail
  go_cut [11] (fun t wx => t = .int .i64 (bothV s.xs m.xs).2 ∧ Below w10.heap.size w10 wx)
  case first =>
    as_aux_lemma =>
    by_cases hc : chkV s.xs = 0
    · have hcb : (chkV s.xs == 0) = true := by rw [hc]; rfl
      have HT := hid (show (bothV s.xs m.xs).2 = chkV m.xs by
        rw [bothV, if_pos hc]
        by_cases hm : chkV m.xs = 0
        · rw [if_pos hm, hm]
        · rw [if_neg hm])
      clear hc
      go_wp2_with fail
      refine (rview_any m w10 (HM.out _ Hb10.out)).mono ?_
      rintro e w11 ⟨rfl, hb11⟩
      go_wp2_with fail
      go_meet
      exact ⟨by rw [HT.out], hb11⟩
    · have hcb : (chkV s.xs == 0) = false := by rw [beq_eq_false_iff_ne]; exact hc
      have HT := hid (show (bothV s.xs m.xs).2 = chkV s.xs by rw [bothV, if_neg hc])
      clear hc
      go_wp2_with fail
      go_meet
      exact ⟨by rw [HT.out], Below.refl _ _⟩
  case rest =>
  obtain ⟨rfl, hb11⟩ := hcut
  obtain ⟨w11, rfl⟩ : ∃ w11 : World, w11 = wc := ⟨_, rfl⟩
  have Hb11 := hid (Below.step Hb10.out hb11 hz10)
  have hz11 := Hb11.out.size
  clear hb11
  go_upto_if 103 with fail
  go_cut [19] (fun t wx => MRow wx t (bothV s.xs m.xs).1 ∧ Below w11.heap.size w11 wx)
  case first =>
    as_aux_lemma =>
    by_cases h0 : (bothV s.xs m.xs).2 = 0
    · have hcb : ((bothV s.xs m.xs).2 == 0) = true := by rw [h0]; rfl
      obtain ⟨hvs, hvm, hbv⟩ := bothV_zero h0
      have Hvm := hid hvm
      have Hbv := hid hbv
      have Hvs := hid hvs
      clear h0 hbv hvm hvs
      go_wp2_with fail
      go_loopw [19, 23] (fun u i wr => ∃ (k : Nat) (q : SlV M), k ≤ m.xs.length ∧ u = .slice q.A q.xs.length q.c ∧ i = .int .i64 k ∧ MsAt wr q ∧ chkV q.xs = 0 ∧ allV q.xs (m.xs.drop k) = allV s.xs m.xs ∧ Below w11.heap.size w11 wr) (fun _ i _ => m.xs.length - (intOf i).toNat)
      case atStart => exact ⟨0, s, Nat.zero_le _, rfl, rfl, HS.out _ Hb11.out, Hvs.out, rfl, Below.refl _ _⟩
      case round =>
        obtain ⟨k, q, hk, rfl, rfl, hqA, hqv, hRk, hbr⟩ := hrel
        have hzr := hbr.size
        have HqA := hid hqA
        have Hqv := hid hqv
        by_cases hlt : k < m.xs.length
        · clear hcb
          rename ((bothV s.xs m.xs).2 == 0) = true => hcb2
          clear hcb2
          obtain ⟨g, off, hA, hgl, hcells⟩ := (HM.out wr (Below.step Hb11.out hbr hz11)).row (by omega)
          obtain ⟨k0, k1, k2⟩ := hcells k hlt
          have hych := (vval_iff.1 Hvm.out).2 _ (getD_memD M.zero hlt)
          rw [drop_consD M.zero hlt, allV] at hRk
          generalize m.xs.getD k M.zero = z at *
          obtain ⟨z0, z1, z2⟩ := z
          simp only at k0 k1 k2
          have Hrg := hid (range3 k0 k1 k2)
          clear k0 k1 k2
          have HAd := hid (rvadd_any q z0 z1 z2 wr hqA hqv hych)
          have Hkey := hid (addV_key hqv hych).1
          have HRk := hid hRk
          rw [hA]
          clear hA hcells hRk hych hqA hqv
          generalize addV q.xs ⟨z0, z1, z2⟩ = B at *
          obtain ⟨l2, ab2⟩ := B
          go_wp2_with (with_reducible refine at_loadM rfl ?_; refine ldM rfl _ rfl g (off + k * 3) rfl _ _ _ Hrg.out ?_)
          refine HAd.out.mono ?_
          rintro e w12 ⟨q2, rfl, hqx, hqA2, hb12⟩
          have Hqx := hid hqx
          have HqA2 := hid hqA2
          clear hqx hqA2
          go_wp2_with fail
          go_roundw
          case rel => exact ⟨k + 1, q2, by omega, rfl, by go_num, HqA2.out, by rw [Hqx.out]; exact Hkey.out, by rw [Hqx.out]; exact HRk.out, by (repeat (first | with_reducible exact Below.refl _ _ | with_reducible assumption | (with_reducible refine Below.drew ?_) | (with_reducible refine Below.manyDrew ?_ _) | ((with_reducible refine Below.alloc ?_ ?_ _); rotate_left; (focus (first | omega | (dsimp only; omega) | (simp; done) | (simp; omega)))) | ((with_reducible refine Below.setCell ?_ ?_ _); rotate_left; (focus (first | omega | (dsimp only; omega) | (simp; done) | (simp; omega)))) | ((with_reducible refine Below.step ?_ (by assumption) ?_); rotate_left; (focus (first | omega | (dsimp only; omega) | (simp; done) | (simp; omega))))))⟩
          case measure => simp [intOf]; omega
        · obtain rfl : k = m.xs.length := by omega
          rw [List.drop_length] at hRk
          have HRk := hid (show q.xs = allV s.xs m.xs from hRk)
          clear hRk hqA hqv
          go_wp2_with fail
          go_meet
          rw [Hbv.out]
          exact ⟨⟨q, rfl, HRk.out, HqA.out⟩, hbr⟩
    · have hcb : ((bothV s.xs m.xs).2 == 0) = false := by rw [beq_eq_false_iff_ne]; exact h0
      have HN := hid (show (bothV s.xs m.xs).1 = [] by
        unfold bothV at h0 ⊢
        split
        · rename_i h1
          rw [if_pos h1] at h0
          split
          · rename_i h2
            rw [if_pos h2] at h0
            exact absurd rfl h0
          · rfl
        · rfl)
      clear h0
      go_wp2_with fail
      go_meet
      rw [HN.out]
      exact ⟨MRow.nil _, Below.refl _ _⟩
  case rest =>
  obtain ⟨hRv, hb12⟩ := hcut
  obtain ⟨w12, rfl⟩ : ∃ w12 : World, w12 = wc := ⟨_, rfl⟩
  obtain ⟨q, rfl, hqx, hqA⟩ := hRv
  have Hb12 := hid (Below.step Hb11.out hb12 hz11)
  have hz12 := Hb12.out.size
  have Hqx := hid hqx
  have HqA := hid hqA
  have HB := hid (vboth_any s m w12 (HS.out _ Hb12.out) (HM.out _ Hb12.out))
  have Hgd2 := hid (bothV_good s.xs m.xs)
  clear hb12 hqx hqA
  generalize bothV s.xs m.xs = B at *
  obtain ⟨L2, be⟩ := B
  go_wp2_with fail
  refine HB.out.mono ?_
  rintro e w13 ⟨v13, rfl, hOw, hb13⟩
  obtain ⟨u, rfl, hux, huA⟩ := MRow.of_ow hOw Hgd2.out
  have Hb13 := hid (Below.step Hb12.out hb13 hz12)
  have hz13 := Hb13.out.size
  have HuA := hid huA
  have Hux := hid hux
  have HqA13 := hid (HqA.out.stays hb13)
  clear hOw hb13 huA hux
  go_wp2_with fail
  refine (error_any _ _ w13 (HG.out _ Hb13.out)).mono ?_
  rw [beq_self_eq_true]
  rintro e w14 ⟨rfl, hb14⟩
  have Hb14 := hid (Below.step Hb13.out hb14 hz13)
  have hz14 := Hb14.out.size
  have HE := hid (members_any u q w14 (HuA.out.stays hb14) (HqA13.out.stays hb14))
  rw [Hux.out, Hqx.out, eqsM_refl] at HE
  clear hb14
  rw [Hux.out, Hqx.out]
  go_wp2_with fail
  refine HE.out.mono ?_
  rintro e w15 ⟨rfl, hb15⟩
  have Hb15 := hid (Below.step Hb14.out hb15 hz14)
  have hz15 := Hb15.out.size
  clear hb15 HE
  have HAnB := hid (fun hc hn => ans_bad (l := s.xs) (n := n) hc hn)
  have HAnR := hid (fun hc hn => ans_ref (l := s.xs) (n := n) hc hn)
  have HAnN := hid (fun hc => ans_no (l := s.xs) (n := n) hc)
  have HAw := hid (fun W hW => vanswer_any s n W (HS.out W hW))
  have HAg : Hid (∀ y ∈ (answerR s.xs n).1, y.good) := hid (answer_gd s.xs n)
  generalize hAR : answerR s.xs n = AR at *
  have HAR := hid hAR
  clear hAR
  obtain ⟨LA, ea⟩ := AR
  obtain ⟨b3, hb3⟩ : ∃ b3, b3 = ((chkV s.xs == 0) && !nodeB n) := ⟨_, rfl⟩
  have Hb3 := hid hb3
  clear hb3
  go_upto_region 36 with fail
  go_cut [144] (fun t wx => t = .bool b3 ∧ wx = w15)
  case first =>
    as_aux_lemma =>
    rcases hcb : (chkV s.xs == 0) with _ | _
    · have hb2 := Hb3.out
      rw [hcb, Bool.false_and] at hb2
      have Hb2 := hid hb2
      clear hb2
      go_wp2_with fail
      all_goals
        go_meet
        exact ⟨by rw [Hb2.out], rfl⟩
    · have hb2 := Hb3.out
      rw [hcb, Bool.true_and] at hb2
      have Hb2 := hid hb2
      clear hb2
      rcases (show n < 0 ∨ (0 ≤ n ∧ 5 < n) ∨ (0 ≤ n ∧ n ≤ 5) by omega) with h0 | ⟨h0, h1⟩ | ⟨h0, h1⟩
      all_goals
        first
          | (have hnb : nodeB n = true := nodeB_true.2 ⟨by omega, by omega⟩)
          | (have hnb : nodeB n = false := by rw [← Bool.not_eq_true, nodeB_true]; omega)
        rw [hnb] at Hb2
        clear hnb
        go_wp2_with fail
        go_meet
        exact ⟨by rw [Hb2.out]; first | rfl | (simp; done) | (simp; omega), rfl⟩
  case rest =>
  obtain ⟨rfl, hwc⟩ := hcut
  obtain rfl : w15 = wc := hwc.symm
  go_upto_if 144 with fail
  go_cut [11, 19] (fun e t wx => e = .int .i64 ea ∧ MRow wx t LA ∧ Below w15.heap.size w15 wx)
  case first =>
    as_aux_lemma =>
    by_cases hc : chkV s.xs = 0
    case neg =>
      have hcb : (chkV s.xs == 0) = false := by rw [beq_eq_false_iff_ne]; exact hc
      have hq : b3 = false := by rw [Hb3.out, hcb]; rfl
      subst hq
      have HF := hid (HAnN.out hc)
      clear hc
      go_wp2_with fail
      go_meet
      have h := HF.out
      injection h with h1 h2
      rw [h1, h2]
      exact ⟨rfl, MRow.nil _, Below.refl _ _⟩
    case pos =>
    have hcb : (chkV s.xs == 0) = true := by rw [hc]; rfl
    rcases (show nodeB n = false ∨ nodeB n = true by cases nodeB n <;> simp) with hn | hn
    · have hq : b3 = true := by rw [Hb3.out, hcb, hn]; rfl
      subst hq
      have HF := hid (HAnB.out hc hn)
      clear hc hn
      go_wp2_with fail
      go_meet
      have h := HF.out
      injection h with h1 h2
      rw [h1, h2]
      exact ⟨rfl, MRow.nil _, Below.refl _ _⟩
    · have hq : b3 = false := by rw [Hb3.out, hcb, hn]; rfl
      subst hq
      have HF := hid (HAnR.out hc hn)
      have hl6 := (vval_facts hc).2.2
      have Hrt := hid (vval_iff.1 hc).2
      clear hc hn
      go_wp2_with fail
      go_loopw [11, 19, 25] (fun e v i wr => ∃ j : Nat, j ≤ s.xs.length ∧ e = .int .i64 ((s.xs.take j).foldl (effA n) 5) ∧ i = .int .i64 j ∧ Ow M.cells 3 w15.heap.size 52 wr v ((s.xs.take j).map (updM n)) ∧ Below w15.heap.size w15 wr) (fun _ _ i _ => s.xs.length - (intOf i).toNat)
      case atStart => exact ⟨0, Nat.zero_le _, rfl, rfl, Ow.nil _ _ _ _ _, Below.refl _ _⟩
      case round =>
        obtain ⟨j, hj, rfl, rfl, hO, hbr⟩ := hrel
        have hzr := hbr.size
        have HO := hid hO
        have Hbr := hid hbr
        clear hO
        by_cases hlt : j < s.xs.length
        · obtain ⟨g, off, hA, hgl, hcells⟩ := (HS.out wr (Below.step Hb15.out hbr hz15)).row (by omega)
          obtain ⟨k0, k1, k2⟩ := hcells j hlt
          have htk := take_snocD M.zero hlt
          have he1 : (s.xs.take (j + 1)).foldl (effA n) 5 = effA n ((s.xs.take j).foldl (effA n) 5) (s.xs.getD j M.zero) := by rw [htk, List.foldl_append]; rfl
          have hm1 : (s.xs.take (j + 1)).map (updM n) = (s.xs.take j).map (updM n) ++ [updM n (s.xs.getD j M.zero)] := by rw [htk, List.map_append]; rfl
          have hll : ((s.xs.take j).map (updM n)).length ≤ 6 := by rw [List.length_map, List.length_take]; omega
          have hgood := (rightB_true.1 (Hrt.out _ (getD_memD M.zero hlt))).2.1
          generalize s.xs.getD j M.zero = y at *
          generalize (s.xs.take j).foldl (effA n) 5 = e0 at *
          generalize (s.xs.take j).map (updM n) = L at *
          obtain ⟨q0, q1, q2⟩ := y
          obtain ⟨u0, u1, u2, hu⟩ : ∃ u0 u1 u2, updM n ⟨q0, q1, q2⟩ = ⟨u0, u1, u2⟩ := ⟨_, _, _, rfl⟩
          have Hu := hid hu
          have He1 := hid he1
          have Hm1 := hid hm1
          simp only at k0 k1 k2
          have Hrg := hid (range3 k0 k1 k2)
          have HA := hid hA
          have hq1 : 0 ≤ q1 ∧ q1 ≤ 100 := hgood
          obtain ⟨hq1a, hq1b⟩ := hq1
          rw [hA]
          clear hA hcells htk he1 hm1 hu hgood
          go_upto_if 160 with (with_reducible refine at_loadM rfl ?_; refine ldM rfl _ rfl g (off + j * 3) rfl _ _ _ Hrg.out ?_)
          obtain ⟨wB, hwB⟩ : ∃ wB : World, wB = wr.alloc (.cells #[.int .i64 q0, .int .i64 q1, .int .i64 q2] 52) := ⟨_, rfl⟩
          rw [← hwB]
          have HBB := hid (show Blk wB wr.heap.size 52 #[.int .i64 q0, .int .i64 q1, .int .i64 q2] by rw [hwB]; exact Blk.new _ _ _)
          have HbB := hid (show Below wr.heap.size wr wB by rw [hwB]; exact (Below.refl _ _).alloc (Nat.le_refl _) _)
          clear hwB k0 k1 k2
          go_cut [11] (fun e wx => e = .int .i64 (effA n e0 ⟨q0, q1, q2⟩) ∧ Blk wx wr.heap.size 52 #[.int .i64 u0, .int .i64 u1, .int .i64 u2] ∧ Below wr.heap.size wr wx)
          case first =>
            have b0 : wB.cell? ⟨wr.heap.size, 0, none⟩ = some (.int .i64 q0) := HBB.out.cell 0
            have b1 : wB.cell? ⟨wr.heap.size, 1, none⟩ = some (.int .i64 q1) := HBB.out.cell 1
            have b2 : wB.cell? ⟨wr.heap.size, 2, none⟩ = some (.int .i64 q2) := HBB.out.cell 2
            have z1 := HBB.out.frozen 1
            have z2 := HBB.out.frozen 2
            rcases (show (¬ q0 = n) ∨ (q0 = n ∧ q2 = 0) ∨ (q0 = n ∧ ¬ q2 = 0 ∧ q1 = 100) ∨ (q0 = n ∧ ¬ q2 = 0 ∧ ¬ q1 = 100) by omega) with hn | ⟨hn, h0⟩ | ⟨hn, h0, h1⟩ | ⟨hn, h0, h1⟩
            · have v0 : (q0 == n) = false := by rw [beq_eq_false_iff_ne]; exact hn
              have hE : effA n e0 ⟨q0, q1, q2⟩ = e0 := by rw [effA, if_neg hn]
              have hU : updM n ⟨q0, q1, q2⟩ = ⟨q0, q1, q2⟩ := by rw [updM, if_neg hn]
              have hu := Hu.out
              rw [hU] at hu
              injection hu with g0 g1 g2
              subst g0 g1 g2
              have HE := hid hE
              clear hE hU hn
              go_wp2_with fail
              go_meet
              exact ⟨by rw [HE.out], HBB.out, HbB.out⟩
            · have v0 : (q0 == n) = true := by rw [hn]; simp
              have v1 : (q2 != 0) = false := by rw [h0]; rfl
              have hE : effA n e0 ⟨q0, q1, q2⟩ = 0 := by rw [effA, if_pos hn, if_pos h0]
              have hU : updM n ⟨q0, q1, q2⟩ = ⟨q0, q1, q2⟩ := by rw [updM, if_pos hn, if_pos h0]
              have hu := Hu.out
              rw [hU] at hu
              injection hu with g0 g1 g2
              subst g0 g1 g2
              have HE := hid hE
              clear hE hU hn h0
              go_wp2_with fail
              go_meet
              exact ⟨by rw [HE.out], HBB.out, HbB.out⟩
            · have v0 : (q0 == n) = true := by rw [hn]; simp
              have v1 : (q2 != 0) = true := by rw [bne_iff_ne]; exact h0
              have v2 : (q1 == 100) = true := by rw [h1]; rfl
              have hE : effA n e0 ⟨q0, q1, q2⟩ = 4 := by rw [effA, if_pos hn, if_neg h0, if_pos h1]
              have hU : updM n ⟨q0, q1, q2⟩ = ⟨q0, q1, q2⟩ := by rw [updM, if_pos hn, if_neg h0, if_pos h1]
              have hu := Hu.out
              rw [hU] at hu
              injection hu with g0 g1 g2
              subst g0 g1 g2
              have HE := hid hE
              clear hE hU hn h0 h1
              go_wp2_with fail
              go_meet
              exact ⟨by rw [HE.out], HBB.out, HbB.out⟩
            · have v0 : (q0 == n) = true := by rw [hn]; simp
              have v1 : (q2 != 0) = true := by rw [bne_iff_ne]; exact h0
              have v2 : (q1 == 100) = false := by rw [beq_eq_false_iff_ne]; exact h1
              have hE : effA n e0 ⟨q0, q1, q2⟩ = 0 := by rw [effA, if_pos hn, if_neg h0, if_neg h1]
              have hU : updM n ⟨q0, q1, q2⟩ = ⟨q0, q1 + 1, 0⟩ := by rw [updM, if_pos hn, if_neg h0, if_neg h1]
              have hu := Hu.out
              rw [hU] at hu
              injection hu with g0 g1 g2
              subst g0 g1 g2
              have HE := hid hE
              clear hE hU hn h0 h1
              go_wp2_with fail
              go_meet
              exact ⟨by rw [HE.out], (HBB.out.put 2 _).put 1 _, (HbB.out.setCell (p := ⟨wr.heap.size, 2, none⟩) (Nat.le_refl _) _).setCell (p := ⟨wr.heap.size, 1, none⟩) (Nat.le_refl _) _⟩
          case rest =>
          obtain ⟨rfl, hBu, hbx⟩ := hcut
          obtain ⟨w17, rfl⟩ : ∃ w17 : World, w17 = wc := ⟨_, rfl⟩
          have HBu := hid (Blk.range3 hBu)
          have HO17 := hid (HO.out.belowS hbx)
          have Hb17 := hid (Below.step Hbr.out hbx hzr)
          have hz17 := Hb17.out.size
          clear hBu hbx
          go_wp2_with (first | (with_reducible refine at_loadM rfl ?_; refine ldM rfl _ rfl wr.heap.size 0 rfl _ _ _ HBu.out ?_) | (with_reducible refine at_buildM rfl ?_; refine bdM rfl _ rfl _ _ _ rfl ?_) | (at_builtin; refine appM _ w15.heap.size _ L u0 u1 u2 HO17.out rfl _ _ rfl rfl rfl ?_ ?_ ?_ ?_))
          any_goals (first | (with_reducible rfl) | omega | exact World.size_alloc _ _ | (show _ ≤ _; rw [World.size_alloc]; omega))
          intro v8 w8 h8 f8 o8
          have hb8 : Below w15.heap.size w15 w8 := Hb17.out.trans (f8.below0 hz17 (fun i hi => HO17.out.ge _ hi))
          go_wp2_with fail
          go_roundw
          case rel => exact ⟨j + 1, by omega, by rw [He1.out], by go_num, by rw [Hm1.out, Hu.out]; exact h8, hb8⟩
          case measure => simp [intOf]; omega
        · obtain rfl : j = s.xs.length := by omega
          rw [List.take_length] at HO
          have hee : (s.xs.take s.xs.length).foldl (effA n) 5 = ea := by
            have h := HF.out
            injection h with h1 h2
            rw [List.take_length, h2]
            rfl
          have hLA : LA = if ea = 0 then s.xs.map (updM n) else [] := by
            have h := HF.out
            injection h with h1 h2
            rw [h1, refL, ← h2]
          rw [hee]
          have HLA := hid hLA
          clear hee hLA
          by_cases h0 : ea = 0
          · have hL2 : s.xs.map (updM n) = LA := by rw [HLA.out, if_pos h0]
            rw [hL2] at HO
            have HR := hid (MRow.of_ow HO.out HAg.out)
            have hb : (ea != 0) = false := by rw [h0]; rfl
            clear hL2 h0
            go_wp2_with fail
            go_meet
            exact ⟨rfl, HR.out, Hbr.out⟩
          · have hL2 := hid (show LA = [] by rw [HLA.out, if_neg h0])
            have hb : (ea != 0) = true := by rw [bne_iff_ne]; exact h0
            clear h0
            go_wp2_with fail
            go_meet
            exact ⟨rfl, by rw [hL2.out]; exact MRow.nil _, Hbr.out⟩
  case rest =>
  obtain ⟨rfl, ⟨t, rfl, htx, htA⟩, hb16⟩ := hcut
  obtain ⟨w16, rfl⟩ : ∃ w16 : World, w16 = wc := ⟨_, rfl⟩
  have Htx := hid htx
  have HtA := hid (fun W (hW : Below w16.heap.size w16 W) => htA.stays hW)
  have Hb16 := hid (Below.step Hb15.out hb16 hz15)
  have HAn := hid (HAw.out w16 Hb16.out)
  clear htx htA hb16 Hb3 HAnB HAnR HAnN HAw
  go_wp2_with fail
  refine HAn.out.mono ?_
  rintro e w17 ⟨v17, rfl, hOw, hb17⟩
  obtain ⟨z, rfl, hzx, hzA⟩ := MRow.of_ow hOw HAg.out
  have Hzx := hid hzx
  have HzA := hid (fun W (hW : Below w17.heap.size w17 W) => hzA.stays hW)
  have Hb167 := hid hb17
  have Hb17 := hid (Below.step Hb16.out hb17 Hb16.out.size)
  clear hOw hb17 hzx hzA
  go_wp2_with fail
  refine (error_any _ _ w17 (HG.out _ Hb17.out)).mono ?_
  rw [beq_self_eq_true]
  rintro e w18 ⟨rfl, hb18⟩
  have Hb18 := hid (Below.step Hb17.out hb18 Hb17.out.size)
  have HE3 := hid (members_any z t w18 (HzA.out _ hb18) (HtA.out _ (Below.step Hb167.out hb18 Hb167.out.size)))
  rw [show eqsM z.xs t.xs = true by rw [Hzx.out, Htx.out, eqsM_refl]] at HE3
  clear hb18
  go_wp2_with fail
  refine HE3.out.mono ?_
  rintro e w19 ⟨rfl, hb19⟩
  have Hb19 := hid (Below.step Hb18.out hb19 Hb18.out.size)
  clear hb19
  go_wp2_with fail
  go_ret
  exact ⟨rfl, Hb19.out⟩

theorem trodAll_five {H : Type} {enc : TypeId × Value → H} {P : Program} {w : World} {base : Nat} {sp : Nat → Bool} {held : Bool} {t t' t'' t3 t4 : TypeId} {args : Array Value} {ds : List (DataW H)} {ps : List MemPlace} (h : DataW.TrodAll enc P w base sp held [t, t', t'', t3, t4] args.toList ds ps) :
    ∃ v v' v'' v3 v4 d d' d'' d3 d4 p p' p'' p3 p4, args = #[v, v', v'', v3, v4] ∧ ds = [d, d', d'', d3, d4] ∧ ps = p ++ (p' ++ (p'' ++ (p3 ++ (p4 ++ [])))) ∧ DataW.Trod enc P w base sp held t v d p ∧ DataW.Trod enc P w base sp held t' v' d' p' ∧ DataW.Trod enc P w base sp held t'' v'' d'' p'' ∧ DataW.Trod enc P w base sp held t3 v3 d3 p3 ∧ DataW.Trod enc P w base sp held t4 v4 d4 p4 := by
  obtain ⟨v, vs, d, ds', p, q, e1, rfl, rfl, h1, h⟩ := trodAll_cons h
  obtain ⟨v', vs', d', ds'', p', q', rfl, rfl, rfl, h2, h⟩ := trodAll_cons h
  obtain ⟨v'', vs'', d'', ds3, p'', q'', rfl, rfl, rfl, h3, h⟩ := trodAll_cons h
  obtain ⟨v3, vs3, d3, ds4, p3, q3, rfl, rfl, rfl, h4, h⟩ := trodAll_cons h
  obtain ⟨v4, vs4, d4, ds5, p4, q4, rfl, rfl, rfl, h5, h⟩ := trodAll_cons h
  obtain ⟨rfl, rfl, rfl⟩ := trodAll_nil h
  refine ⟨v, v', v'', v3, v4, d, d', d'', d3, d4, p, p', p'', p3, p4, ?_, rfl, rfl, h1, h2, h3, h4, h5⟩
  exact Array.toList_inj.1 (by simpa using e1)

set_option maxRecDepth 100000 in
theorem viewTells_walk : LawWalk Tryd.prog 4 Tryd.f4 Gl := by
  intro W base args H enc ds p hval hA hgl
  rw [Tryd.params4] at hA hval
  obtain ⟨v0, v1, v2, v3, v4, d0, d1, d2, d3, d4, p0, p1, p2, p3, p4, rfl, rfl, rfl, h0, h1, h2, h3, h4⟩ := trodAll_five hA
  obtain ⟨⟨x0, x1, x2⟩, rfl, hx⟩ := arg_struct Tryd.underlying52 codecM (hval 0 52 v0 rfl rfl) h0
  obtain ⟨⟨y0, y1, y2⟩, rfl, hy⟩ := arg_struct Tryd.underlying52 codecM (hval 1 52 v1 rfl rfl) h1
  obtain ⟨s, rfl, hs⟩ := arg_slice Tryd.underlying53 codecM (pos_of_eq Tryd.cellsM (by decide)) (hval 2 53 v2 rfl rfl) h2
  obtain ⟨m, rfl, hm⟩ := arg_slice Tryd.underlying53 codecM (pos_of_eq Tryd.cellsM (by decide)) (hval 3 53 v3 rfl rfl) h3
  obtain ⟨n, rfl, _⟩ := arg_int Tryd.underlying3 (hval 4 3 v4 rfl rfl) h4
  exact viewTells_any x0 x1 x2 y0 y1 y2 s m n W (MsAt_of hs) (MsAt_of hm) hgl

set_option maxRecDepth 100000 in
theorem viewTells_lifted (os : Os) (started : os.Started) (H : Type) (enc : TypeId × Value → H) :
    ReturnsInHanded {} Tryd.checked os 4 .any (fun w args => (Rows.viewTellsSpec.pre enc Tryd.checked.prog Tryd.f4 [] false w args ∧ laidMetH Tryd.prog theLaid w) ∧ sizedMet enc Tryd.checked.prog Tryd.f4 (OpenSpec.ofChange Rows.viewTellsSpec) false w args) (Rows.viewTellsSpec.post enc Tryd.checked.prog Tryd.f4 false true false false) :=
  laid_lifted (C := Tryd.checked) theLaid (fun _ h => handle_of_laid h) [] Tryd.own started (by kernel_rfl) Tryd.func4 Tryd.laidOut (by kernel_rfl) rfl Tryd.underlying4 rfl (fun ds h => by match ds, h with | [_, _, _, _, _], _ => rfl)
    (ChangeSpec.witness_at (enc := enc) (C := Tryd.checked) (os := os) (X := fun w _ => laidMetH Tryd.prog theLaid w) false (laidWorld os) #[.agg #[.int .i64 0, .int .i64 0, .int .i64 0], .agg #[.int .i64 0, .int .i64 0, .int .i64 0], .slice none 0 0, .slice none 0 0, .int .i64 0] 8 rfl (by kernel_rfl) (by kernel_rfl) (by kernel_rfl) (by kernel_rfl) (by kernel_rfl) (laidWorld_met os _)) viewTells_walk

theorem viewTells_row : Rows.ViewTellsSaid :=
  OpenClaim.holds_of_wide 4 Tryd.f4 rfl rfl rfl rfl rfl rfl rfl ⟨rfl, rfl, rfl, rfl, rfl⟩ rfl rfl rfl rfl rfl (by kernel_rfl) Tryd.func4 (by kernel_rfl)
    (of_decide_eq_true (by kernel_rfl)) (by unfold Func.isWrapper; rw [if_neg (of_decide_eq_false (by kernel_rfl))]; exact ⟨rfl, rfl⟩)
    (fun os started H enc _ => viewTells_lifted os started H enc)

theorem viewTells_holds : Rows.ViewTellsCardSaid :=
  Claim7.holds_tied_plain_at .later [] [.handle] true _ true
    viewTells_row (fun _ h => by cases h) (by kernel_rfl) (fun _ h => by cases h) viewTells_row_tie rfl ⟨rfl, rfl⟩ (by kernel_rfl) rfl
    (fun f fn hf hfn => by
      obtain rfl : f = 4 := Option.some.inj ((show Tryd.prog.funcNamed "beaconmere/merelaw2.ViewTells" = some 4 by kernel_rfl).symm.trans hf) |>.symm
      obtain rfl : fn = Tryd.f4 := (Option.some.inj (Tryd.func4.symm.trans hfn)).symm
      refine ⟨by kernel_rfl, fun j t ht => ?_⟩
      have hall : Tryd.f4.params.toList.all (fun t => !Tryd.prog.wantsStandIn t) = true := by kernel_rfl
      have hm : t ∈ Tryd.f4.params.toList := by
        obtain ⟨hj, hje⟩ := Array.getElem?_eq_some_iff.1 ht
        rw [← hje]
        exact Array.mem_toList_iff.2 (Array.getElem_mem hj)
      have := List.all_eq_true.1 hall t hm
      exact (show Tryd.prog.wantsStandIn t = false by simpa using this))
    (by kernel_rfl)

end Go.Proofs.YtgamocljdbffpaaDoor
