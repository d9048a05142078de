/-
  PROVED HERE: merelaw1.TombTells returns true: up to where all caches know any key, any swept, and which are safe are as the document says. CONDITIONS: errors.errorType as the program's text lays it (tied by the card).
-/
import Derived.Test.YthjbebngedajiaaDoorTombLaw
import Derived.Test.YthjbebngedajiaaDoorCBoth
import Derived.Test.YthjbebngedajiaaDoorDoor
import Derived.Test.YthjbebngedajiaaDoorREntry
import Derived.Test.YthjbebngedajiaaDoorELd
import Derived.Deep.DeepCutAuto
import Derived.Deep.CutBlock
namespace Go.Proofs.YthjbebngedajiaaDoor
open Go.RowKit
open Go.ChangeShapes Go.WideShapes Go.ChangeAt

theorem leftL_len (m : Int) (l : List E) : (leftL m l).length ≤ l.length := List.length_filter_le _ _
theorem goneL_len (m : Int) (l : List E) : (goneL m l).length ≤ l.length := by unfold goneL; rw [List.length_map]; exact List.length_filter_le _ _
theorem sweepR_good {l : List E} {m : Int} (hg : ∀ e ∈ l, e.good) : ∀ e ∈ (sweepR l m).1.1, e.good := by
  unfold sweepR
  split
  · split
    · exact fun e he => hg e (List.mem_filter.1 he).1
    · simp
  · simp
theorem chkT_ok {l : List (SlV E)} (h : chkT l = 0) : (1 ≤ l.length ∧ l.length ≤ 6) ∧ ∀ c ∈ l, chkC c.xs = 0 := by
  unfold chkT at h
  split at h
  · cases h
  · split at h
    · cases h
    · exact ⟨by omega, chkTs_ok h⟩

set_option maxHeartbeats 16000000 in
set_option maxRecDepth 100000 in
theorem tombTells_any (s : SlV (SlV E)) (k : Int) (m : SlV E) (mk : Int) (w : World) (hs : CachesAt w s) (hm : EsAt w m) (hgl : Gl w) :
    Calls Tryd.prog 4 #[.slice s.A s.xs.length s.c, .int .i64 k, .slice m.A m.xs.length m.c, .int .i64 mk] w fun e w' => e = .returned (.bool true) ∧ Below w.heap.size w w' := by
  have HS := hid (fun W (hW : Below w.heap.size w W) => hs.stays hW)
  have HM := hid (fun W (hW : Below w.heap.size w W) => hm.stays hW)
  have HG := hid (fun W (hW : Below w.heap.size w W) => hgl.belowS hW)
  have hlm := hm.len
  have hls := hs.len
  unfold maxLen at hlm hls
  have Hmg := hid hm.each
  clear hs hm hgl
  go_enter Tryd.func4, Tryd.ntmps4
  go_wp2_with fail
  refine (rcaches_any s w (HS.out _ (Below.refl _ _))).mono ?_
  rintro e w1 ⟨rfl, hb1⟩
  have Hb1 := hid hb1
  have hz1 := hb1.size
  clear hb1
  go_wp2_with fail
  refine (rkey_any k _).mono ?_
  rintro e w1' ⟨rfl, rfl⟩
  go_upto_region 4 with fail
  obtain ⟨bb, hbb⟩ : ∃ bb, bb = ((chkT s.xs == 0) && !keyB k) := ⟨_, rfl⟩
  have Hbb := hid hbb
  clear hbb
  go_cut [45] (fun t wx => t = .bool bb ∧ wx = w1)
  case first =>
    as_aux_lemma =>
    rcases hcb : (chkT s.xs == 0) with _ | _
    all_goals
      have hb2 := Hbb.out
      rw [hcb] at hb2
      have Hb2 := hid hb2
      clear hb2
      go_wp2_with fail
      all_goals
        go_meet
        exact ⟨by rw [Hb2.out]; simp, rfl⟩
  case rest =>
  obtain ⟨rfl, hwc⟩ := hcut
  obtain rfl : w1 = wc := hwc.symm
  go_upto_if 45 with fail
  go_cut [10] (fun t wx => t = .int .i64 (chkTK s.xs k) ∧ wx = w1)
  case first =>
    as_aux_lemma =>
    by_cases hc : chkT s.xs = 0
    · have hcb : (chkT s.xs == 0) = true := by rw [hc]; rfl
      have HC := hid hc
      rcases (show keyB k = false ∨ keyB k = true by cases keyB k <;> simp) with hk | hk
      · have hq : bb = true := by rw [Hbb.out, hcb, hk]; rfl
        subst hq
        have HF := hid (show chkTK s.xs k = 1 by rw [chkTK, if_pos hc, hk, if_neg (by decide)])
        clear hc hk
        go_wp2_with fail
        go_meet
        exact ⟨by rw [HF.out], rfl⟩
      · have hq : bb = false := by rw [Hbb.out, hcb, hk]; rfl
        subst hq
        have HF := hid (show chkTK s.xs k = 0 by rw [chkTK, if_pos hc, if_pos hk])
        clear hc hk
        go_wp2_with fail
        go_meet
        exact ⟨by rw [HF.out, HC.out], rfl⟩
    · have hcb : (chkT s.xs == 0) = false := by rw [beq_eq_false_iff_ne]; exact hc
      have hq : bb = false := by rw [Hbb.out, hcb]; rfl
      subst hq
      have HF := hid (show chkTK s.xs k = chkT s.xs by rw [chkTK, if_neg hc])
      clear hc
      go_wp2_with fail
      go_meet
      exact ⟨by rw [HF.out], rfl⟩
  case rest =>
  obtain ⟨rfl, hwc⟩ := hcut
  obtain rfl : w1 = wc := hwc.symm
  clear Hbb
  go_upto_if 47 with fail
  go_cut [12] (fun t wx => t = .int .i64 (markR s.xs k).1 ∧ Below w1.heap.size w1 wx)
  case first =>
    as_aux_lemma =>
    by_cases hc : chkTK s.xs k = 0
    · have hcb : (chkTK s.xs k == 0) = true := by rw [hc]; rfl
      obtain ⟨⟨h1, h6⟩, hch, hk⟩ := chkTK_ok hc
      have HR := hid (show (markR s.xs k).1 = refM k 1000 s.xs by rw [markR, if_pos hc, refM_mark (by decide) hch])
      clear hc hch hk
      go_wp2_with fail
      go_loopw [12, 13] (fun o i wr => ∃ (j : Nat) (n : Int), j ≤ s.xs.length ∧ o = .int .i64 n ∧ i = .int .i64 j ∧ refM k n (s.xs.drop j) = refM k 1000 s.xs ∧ Below w1.heap.size w1 wr) (fun _ i _ => s.xs.length - (intOf i).toNat)
      case atStart => exact ⟨0, 1000, Nat.zero_le _, rfl, rfl, rfl, Below.refl _ _⟩
      case round =>
        obtain ⟨j, n, hj, rfl, rfl, hkr, hbr⟩ := hrel
        have hz0 := hbr.size
        have Hbr := hid (Below.step Hb1.out hbr hz1)
        by_cases hlt : j < s.xs.length
        · have hsr := HS.out wr Hbr.out
          obtain ⟨b, off, hA, hb, hcells⟩ := hsr.row (by omega)
          have hcell := hcells j hlt
          have hin := hsr.each j hlt
          have hd : s.xs.drop j = s.xs[j] :: s.xs.drop (j + 1) := List.drop_eq_getElem_cons hlt
          rw [hd, refM] at hkr
          generalize s.xs[j] = c at *
          have HRg := hid (rget_any c k wr hin)
          rw [hA]
          clear hA hcells hd hsr
          generalize rget c.xs k = RG at *
          obtain ⟨⟨y0, y1, y2, y3, y4⟩, yb⟩ := RG
          unfold E.val at HRg
          simp only at hkr
          rcases yb with _ | _
          · rw [if_neg (by decide)] at hkr
            have Hkr := hid hkr
            clear hkr
            go_wp2_with fail
            refine HRg.out.mono ?_
            rintro e w2 ⟨rfl, hb2⟩
            have hzz2 := hb2.size
            go_wp2_with fail
            go_roundw
            case rel => exact ⟨j + 1, 0, by omega, rfl, by go_num, Hkr.out, by (repeat (first | with_reducible exact Below.refl _ _ | with_reducible assumption | (with_reducible refine Below.drew ?_) | (with_reducible refine Below.manyDrew ?_ _) | ((with_reducible refine Below.alloc ?_ ?_ _); rotate_left; (focus (first | omega | (dsimp only; omega) | (simp; done) | (simp; omega)))) | ((with_reducible refine Below.setCell ?_ ?_ _); rotate_left; (focus (first | omega | (dsimp only; omega) | (simp; done) | (simp; omega)))) | ((with_reducible refine Below.step ?_ (by assumption) ?_); rotate_left; (focus (first | omega | (dsimp only; omega) | (simp; done) | (simp; omega))))))⟩
            case measure => simp [intOf]; omega
          · rw [if_pos rfl] at hkr
            by_cases hlo : y2 < n
            · rw [if_pos hlo] at hkr
              have Hkr := hid hkr
              clear hkr
              go_wp2_with fail
              refine HRg.out.mono ?_
              rintro e w2 ⟨rfl, hb2⟩
              have hzz2 := hb2.size
              go_wp2_with fail
              go_roundw
              case rel => exact ⟨j + 1, y2, by omega, rfl, by go_num, Hkr.out, by (repeat (first | with_reducible exact Below.refl _ _ | with_reducible assumption | (with_reducible refine Below.drew ?_) | (with_reducible refine Below.manyDrew ?_ _) | ((with_reducible refine Below.alloc ?_ ?_ _); rotate_left; (focus (first | omega | (dsimp only; omega) | (simp; done) | (simp; omega)))) | ((with_reducible refine Below.setCell ?_ ?_ _); rotate_left; (focus (first | omega | (dsimp only; omega) | (simp; done) | (simp; omega)))) | ((with_reducible refine Below.step ?_ (by assumption) ?_); rotate_left; (focus (first | omega | (dsimp only; omega) | (simp; done) | (simp; omega))))))⟩
              case measure => simp [intOf]; omega
            · rw [if_neg hlo] at hkr
              have Hkr := hid hkr
              clear hkr
              go_wp2_with fail
              refine HRg.out.mono ?_
              rintro e w2 ⟨rfl, hb2⟩
              have hzz2 := hb2.size
              go_wp2_with fail
              go_roundw
              case rel => exact ⟨j + 1, n, by omega, rfl, by go_num, Hkr.out, by (repeat (first | with_reducible exact Below.refl _ _ | with_reducible assumption | (with_reducible refine Below.drew ?_) | (with_reducible refine Below.manyDrew ?_ _) | ((with_reducible refine Below.alloc ?_ ?_ _); rotate_left; (focus (first | omega | (dsimp only; omega) | (simp; done) | (simp; omega)))) | ((with_reducible refine Below.setCell ?_ ?_ _); rotate_left; (focus (first | omega | (dsimp only; omega) | (simp; done) | (simp; omega)))) | ((with_reducible refine Below.step ?_ (by assumption) ?_); rotate_left; (focus (first | omega | (dsimp only; omega) | (simp; done) | (simp; omega))))))⟩
              case measure => simp [intOf]; omega
        · obtain rfl : j = s.xs.length := by omega
          rw [List.drop_length, refM] at hkr
          have Hkr := hid hkr
          clear hkr
          go_wp2_with fail
          go_meet
          exact ⟨by rw [HR.out, ← Hkr.out], hbr⟩
    · have hcb : (chkTK s.xs k == 0) = false := by rw [beq_eq_false_iff_ne]; exact hc
      have HR := hid (show (markR s.xs k).1 = 0 by rw [markR, if_neg hc])
      clear hc
      go_wp2_with fail
      go_meet
      exact ⟨by rw [HR.out], Below.refl _ _⟩
  case rest =>
  obtain ⟨rfl, hb2⟩ := hcut
  obtain ⟨w2, rfl⟩ : ∃ w2 : World, w2 = wc := ⟨_, rfl⟩
  have Hb2 := hid (Below.step Hb1.out hb2 hz1)
  have hz2 := Hb2.out.size
  have HMk := hid (mark_any s k w2 (HS.out _ Hb2.out))
  have hMe : (markR s.xs k).2 = chkTK s.xs k := by
    rw [markR]
    by_cases hc : chkTK s.xs k = 0
    · rw [if_pos hc, hc]
    · rw [if_neg hc]
  rw [hMe] at HMk
  clear hb2 hMe
  generalize (markR s.xs k).1 = mv at *
  generalize chkTK s.xs k = ke at *
  go_wp2_with fail
  refine HMk.out.mono ?_
  rintro e w3 ⟨rfl, hb3⟩
  have Hb3 := hid (Below.step Hb2.out hb3 hz2)
  have hz3 := Hb3.out.size
  clear hb3
  go_wp2_with fail
  refine (error_any _ _ w3 (HG.out _ Hb3.out)).mono ?_
  rw [beq_self_eq_true]
  rintro e w4 ⟨rfl, hb4⟩
  have Hb4 := hid (Below.step Hb3.out hb4 hz3)
  have hz4 := Hb4.out.size
  clear hb4
  go_upto_block 2 with fail
  go_cut [19] (fun t wx => ∃ r : SlV Int, t = .slice r.A r.xs.length r.c ∧ r.xs = (safeR s.xs).1 ∧ IntsAt wx r ∧ Below w4.heap.size w4 wx)
  case first =>
    as_aux_lemma =>
    by_cases hc : chkT s.xs = 0
    · have hcb : (chkT s.xs == 0) = true := by rw [hc]; rfl
      obtain ⟨⟨h1, h6⟩, hch⟩ := chkT_ok hc
      have HR := hid (show (safeR s.xs).1 = refS s.xs 8 by rw [safeR, if_pos hc]; exact safe_ref hch)
      have hhd : headC s.xs = (s.xs[0]'(by omega)).xs := by
        obtain ⟨_, _, xs⟩ := s
        cases xs with
        | nil => simp at h1
        | cons a r => rfl
      have Hhd := hid hhd
      clear hc hch hhd
      go_wp2_with fail
      go_loopw [19, 20] (fun o i wr => ∃ n : Nat, n ≤ 8 ∧ i = .int .i64 n ∧ Ow cellI 1 w4.heap.size 3 wr o (refS s.xs n) ∧ Below w4.heap.size w4 wr) (fun _ i _ => 8 - (intOf i).toNat)
      case atStart => exact ⟨0, by omega, rfl, Ow.nil _ _ _ _ _, Below.refl _ _⟩
      case round =>
        obtain ⟨n, hn, rfl, hOw, hbr⟩ := hrel
        have hz0 := hbr.size
        have HO := hid hOw
        have HGe := hid hOw.ge
        have Hbr := hid (Below.step Hb4.out hbr hz4)
        clear hOw
        by_cases hlt : n < 8
        · have hsr := HS.out wr Hbr.out
          obtain ⟨b, off, hA, hb, hcells⟩ := hsr.row (by omega)
          have hcell := hcells 0 (by omega)
          rw [Nat.add_zero] at hcell
          have hin := hsr.each 0 (by omega)
          have hgk : goodK s.xs n = (((rget (s.xs[0]'(by omega)).xs n).2 && (rget (s.xs[0]'(by omega)).xs n).1.gone) && (s.xs.drop 1).all (qK n (rget (s.xs[0]'(by omega)).xs n).1.ver)) := by rw [goodK, Hhd.out]
          generalize s.xs[0]'(by omega) = c0 at *
          have HRg := hid (rget_any c0 n wr hin)
          generalize rget c0.xs n = RG at *
          obtain ⟨⟨x0, x1, x2, x3, x4⟩, xb⟩ := RG
          unfold E.val at HRg
          simp only at hgk
          have Hgk := hid hgk
          have hrs := refS_succ s.xs n
          have Hrs := hid hrs
          have HA := hid hA
          have hlL := refS_len s.xs n
          generalize refS s.xs n = L at *
          rw [hA]
          clear hA hcells hsr hgk hrs
          go_wp2_with fail
          rw [← HA.out]
          refine HRg.out.mono ?_
          rintro e w5 ⟨rfl, hb5⟩
          have hzz5 := hb5.size
          go_upto_region 24 with fail
          obtain ⟨w6, hw6⟩ : ∃ w6 : World, w6 = w5.alloc (.cells #[.int .i64 x0, .int .i64 x1, .int .i64 x2, .bool x3, .string x4] 26) := ⟨_, rfl⟩
          rw [← hw6]
          have HX6 := hid (show Blk w6 w5.heap.size 26 #[.int .i64 x0, .int .i64 x1, .int .i64 x2, .bool x3, .string x4] by rw [hw6]; exact Blk.new _ _ _)
          have hb46 : Below w4.heap.size w4 w6 := by rw [hw6]; (repeat (first | with_reducible exact Below.refl _ _ | with_reducible assumption | (with_reducible refine Below.drew ?_) | (with_reducible refine Below.manyDrew ?_ _) | ((with_reducible refine Below.alloc ?_ ?_ _); rotate_left; (focus (first | omega | (dsimp only; omega) | (simp; done) | (simp; omega)))) | ((with_reducible refine Below.setCell ?_ ?_ _); rotate_left; (focus (first | omega | (dsimp only; omega) | (simp; done) | (simp; omega)))) | ((with_reducible refine Below.step ?_ (by assumption) ?_); rotate_left; (focus (first | omega | (dsimp only; omega) | (simp; done) | (simp; omega))))))
          have Hb46 := hid hb46
          have hz6 := hb46.size
          have HO6 := hid (show Ow cellI 1 w4.heap.size 3 w6 _ L by rw [hw6]; exact (HO.out.belowS hb5).alloc _)
          clear hw6 hb46 hb5 hbr hcell HO
          go_cut [23] (fun t wx => t = .bool (xb && x3) ∧ wx = w6)
          case first =>
            have c3 : w6.cell? ⟨w5.heap.size, 3, none⟩ = some (.bool x3) := HX6.out.cell 3
            rcases xb with _ | _
            all_goals
              go_wp2_with fail
              go_meet
              exact ⟨by simp, rfl⟩
          case rest =>
          obtain ⟨rfl, hwc⟩ := hcut
          obtain rfl : w6 = wc := hwc.symm
          go_upto_block 4 with fail
          go_cut [23] (fun t wx => t = .bool (goodK s.xs n) ∧ Below w6.heap.size w6 wx)
          case first =>
            go_wp2_with fail
            go_loopw [23, 24] (fun a i wq => ∃ (j : Nat) (ab : Bool), 1 ≤ j ∧ j ≤ s.xs.length ∧ a = .bool ab ∧ i = .int .i64 j ∧ (ab && (s.xs.drop j).all (qK n x1)) = goodK s.xs n ∧ Below w6.heap.size w6 wq) (fun _ i _ => s.xs.length - (intOf i).toNat)
            case atStart => exact ⟨1, (xb && x3), by omega, h1, rfl, rfl, Hgk.out.symm, Below.refl _ _⟩
            case round =>
              obtain ⟨j, ab, hj1, hj, rfl, rfl, hkr, hbq⟩ := hrel
              have hzq := hbq.size
              have hxq := HX6.out.belowS hbq
              have c1 : wr.cell? ⟨w5.heap.size, 1, none⟩ = some (.int .i64 x1) := hxq.cell 1
              have hlq := hxq.lt
              by_cases hjl : j < s.xs.length
              · have hsq := HS.out wr (Below.step Hb4.out (Below.trans Hb46.out (hbq.mono hz6)) hz4)
                obtain ⟨b2, off2, hA2, hb2', hcells2⟩ := hsq.row (by omega)
                have hcell2 := hcells2 j hjl
                have hin2 := hsq.each j hjl
                have hd : s.xs.drop j = s.xs[j] :: s.xs.drop (j + 1) := List.drop_eq_getElem_cons hjl
                rw [hd, List.all_cons, qK] at hkr
                generalize s.xs[j] = c at *
                have HRg2 := hid (rget_any c n wr hin2)
                generalize rget c.xs n = RG at *
                obtain ⟨⟨y0, y1, y2, y3, y4⟩, yb⟩ := RG
                unfold E.val at HRg2
                simp only at hkr
                obtain ⟨RS, hRS⟩ : ∃ RS, (s.xs.drop (j + 1)).all (qK n x1) = RS := ⟨_, rfl⟩
                rw [hRS] at hkr
                have HRS := hid hRS
                clear hRS
                obtain ⟨GK, hGK⟩ : ∃ GK, goodK s.xs n = GK := ⟨_, rfl⟩
                rw [hGK] at hkr ⊢
                have Hkr := hid hkr
                rw [hA2]
                clear hA2 hcells2 hd hsq hGK
                go_wp2_with fail
                refine HRg2.out.mono ?_
                rintro e w7 ⟨rfl, hb7⟩
                have hz7 := hb7.size
                have c7 := (hb7.cell (p := ⟨w5.heap.size, 1, none⟩) hlq).trans c1
                have hl7 : w5.heap.size < w7.heap.size := by omega
                have HW : (ab = false) ∨ (ab = true ∧ yb = false) ∨ (ab = true ∧ yb = true ∧ y3 = false) ∨ (ab = true ∧ yb = true ∧ y3 = true ∧ y1 = x1) ∨ (ab = true ∧ yb = true ∧ y3 = true ∧ ¬ y1 = x1) := by
                  rcases Decidable.em (y1 = x1) with h | h <;> cases ab <;> cases yb <;> cases y3 <;> simp [h]
                clear hkr
                rcases HW with rfl | ⟨rfl, rfl⟩ | ⟨rfl, rfl, rfl⟩ | ⟨rfl, rfl, rfl, hv⟩ | ⟨rfl, rfl, rfl, hv⟩
                · go_wp2_with fail
                  go_roundw
                  case rel => exact ⟨j + 1, false, by omega, by omega, rfl, by go_num, by have := Hkr.out; simpa using this, by (repeat (first | with_reducible exact Below.refl _ _ | with_reducible assumption | (with_reducible refine Below.drew ?_) | (with_reducible refine Below.manyDrew ?_ _) | ((with_reducible refine Below.alloc ?_ ?_ _); rotate_left; (focus (first | omega | (dsimp only; omega) | (simp; done) | (simp; omega)))) | ((with_reducible refine Below.setCell ?_ ?_ _); rotate_left; (focus (first | omega | (dsimp only; omega) | (simp; done) | (simp; omega)))) | ((with_reducible refine Below.step ?_ (by assumption) ?_); rotate_left; (focus (first | omega | (dsimp only; omega) | (simp; done) | (simp; omega))))))⟩
                  case measure => simp [intOf]; omega
                · go_wp2_with fail
                  go_roundw
                  case rel => exact ⟨j + 1, false, by omega, by omega, rfl, by go_num, by have := Hkr.out; simpa using this, by (repeat (first | with_reducible exact Below.refl _ _ | with_reducible assumption | (with_reducible refine Below.drew ?_) | (with_reducible refine Below.manyDrew ?_ _) | ((with_reducible refine Below.alloc ?_ ?_ _); rotate_left; (focus (first | omega | (dsimp only; omega) | (simp; done) | (simp; omega)))) | ((with_reducible refine Below.setCell ?_ ?_ _); rotate_left; (focus (first | omega | (dsimp only; omega) | (simp; done) | (simp; omega)))) | ((with_reducible refine Below.step ?_ (by assumption) ?_); rotate_left; (focus (first | omega | (dsimp only; omega) | (simp; done) | (simp; omega))))))⟩
                  case measure => simp [intOf]; omega
                · go_wp2_with fail
                  go_roundw
                  case rel => exact ⟨j + 1, false, by omega, by omega, rfl, by go_num, by have := Hkr.out; simpa using this, by (repeat (first | with_reducible exact Below.refl _ _ | with_reducible assumption | (with_reducible refine Below.drew ?_) | (with_reducible refine Below.manyDrew ?_ _) | ((with_reducible refine Below.alloc ?_ ?_ _); rotate_left; (focus (first | omega | (dsimp only; omega) | (simp; done) | (simp; omega)))) | ((with_reducible refine Below.setCell ?_ ?_ _); rotate_left; (focus (first | omega | (dsimp only; omega) | (simp; done) | (simp; omega)))) | ((with_reducible refine Below.step ?_ (by assumption) ?_); rotate_left; (focus (first | omega | (dsimp only; omega) | (simp; done) | (simp; omega))))))⟩
                  case measure => simp [intOf]; omega
                · have hvb : (y1 == x1) = true := by rw [beq_iff_eq]; exact hv
                  have Hkr2 := hid (show (true && RS) = GK by have := Hkr.out; rw [decide_eq_true hv] at this; simpa using this)
                  clear hv
                  go_wp2_with fail
                  go_roundw
                  case rel => exact ⟨j + 1, true, by omega, by omega, rfl, by go_num, by rw [HRS.out]; exact Hkr2.out, by (repeat (first | with_reducible exact Below.refl _ _ | with_reducible assumption | (with_reducible refine Below.drew ?_) | (with_reducible refine Below.manyDrew ?_ _) | ((with_reducible refine Below.alloc ?_ ?_ _); rotate_left; (focus (first | omega | (dsimp only; omega) | (simp; done) | (simp; omega)))) | ((with_reducible refine Below.setCell ?_ ?_ _); rotate_left; (focus (first | omega | (dsimp only; omega) | (simp; done) | (simp; omega)))) | ((with_reducible refine Below.step ?_ (by assumption) ?_); rotate_left; (focus (first | omega | (dsimp only; omega) | (simp; done) | (simp; omega))))))⟩
                  case measure => simp [intOf]; omega
                · have hvb : (y1 == x1) = false := by rw [beq_eq_false_iff_ne]; exact hv
                  have Hkr2 := hid (show (false && RS) = GK by have := Hkr.out; rw [decide_eq_false hv] at this; simpa using this)
                  clear hv
                  go_wp2_with fail
                  go_roundw
                  case rel => exact ⟨j + 1, false, by omega, by omega, rfl, by go_num, by rw [HRS.out]; exact Hkr2.out, by (repeat (first | with_reducible exact Below.refl _ _ | with_reducible assumption | (with_reducible refine Below.drew ?_) | (with_reducible refine Below.manyDrew ?_ _) | ((with_reducible refine Below.alloc ?_ ?_ _); rotate_left; (focus (first | omega | (dsimp only; omega) | (simp; done) | (simp; omega)))) | ((with_reducible refine Below.setCell ?_ ?_ _); rotate_left; (focus (first | omega | (dsimp only; omega) | (simp; done) | (simp; omega)))) | ((with_reducible refine Below.step ?_ (by assumption) ?_); rotate_left; (focus (first | omega | (dsimp only; omega) | (simp; done) | (simp; omega))))))⟩
                  case measure => simp [intOf]; omega
              · obtain rfl : j = s.xs.length := by omega
                rw [List.drop_length, List.all_nil, Bool.and_true] at hkr
                have Hkr := hid hkr
                clear hkr
                go_wp2_with fail
                go_meet
                exact ⟨by rw [Hkr.out], hbq⟩
          case rest =>
          obtain ⟨rfl, hb7⟩ := hcut
          obtain ⟨w7, rfl⟩ : ∃ w7 : World, w7 = wc := ⟨_, rfl⟩
          have hb47 := Below.step Hb46.out hb7 hz6
          have HO7 := hid (HO6.out.belowS hb7)
          have Hb47 := hid hb47
          have hz7 := hb47.size
          clear hb7 hb47 Hgk HO6 HX6
          rcases hg : goodK s.xs n with _ | _
          · rw [hg, if_neg (by decide)] at Hrs
            clear hg
            rw [HA.out]
            go_wp2_with fail
            go_roundw
            case rel => exact ⟨n + 1, by omega, by go_num, by rw [Hrs.out]; exact HO7.out, Hb47.out⟩
            case measure => simp [intOf]; omega
          · rw [hg, if_pos rfl] at Hrs
            clear hg
            rw [HA.out]
            go_wp2_with (at_builtin; refine appI _ w4.heap.size _ L n HO7.out rfl _ _ rfl rfl rfl ?_ ?_ ?_ ?_)
            any_goals (first | (with_reducible rfl) | omega | exact World.size_alloc _ _ | (show _ ≤ _; rw [World.size_alloc]; omega))
            intro v8 w8 h8 f8 o8
            have hb8 : Below w4.heap.size w4 w8 := Hb47.out.trans (f8.below0 hz7 (fun i hi => HGe.out _ hi))
            go_wp2_with fail
            go_roundw
            case rel => exact ⟨n + 1, by omega, by go_num, by rw [Hrs.out]; exact h8, hb8⟩
            case measure => simp [intOf]; omega
        · obtain rfl : n = 8 := by omega
          obtain ⟨r, rfl, hrx, hrA, _, _⟩ := IntsAt.of_ow HO.out
          have Hrx := hid hrx
          clear hrx HO HGe
          go_wp2_with fail
          go_meet
          exact ⟨r, rfl, by rw [Hrx.out, HR.out], hrA, hbr⟩
    · have hcb : (chkT s.xs == 0) = false := by rw [beq_eq_false_iff_ne]; exact hc
      have HR := hid (show (safeR s.xs).1 = [] by rw [safeR, if_neg hc])
      clear hc
      go_wp2_with fail
      go_loopw [19, 20] (fun v i wr => v = .slice none 0 0 ∧ i = .int .i64 0 ∧ wr = w4) (fun _ _ _ => 0)
      case atStart => exact ⟨rfl, rfl, rfl⟩
      case round =>
        obtain ⟨rfl, rfl, rfl⟩ := hrel
        go_wp2_with fail
        go_meet
        exact ⟨⟨none, 0, []⟩, rfl, HR.out.symm, IntsAt.bare _ _ _, Below.refl _ _⟩
  case rest =>
  obtain ⟨r, rfl, hrx, hrA, hb5⟩ := hcut
  obtain ⟨w5, rfl⟩ : ∃ w5 : World, w5 = wc := ⟨_, rfl⟩
  have Hrx := hid hrx
  have HrA := hid hrA
  have Hb5 := hid (Below.step Hb4.out hb5 hz4)
  have hz5 := Hb5.out.size
  have HSf := hid (safe_any s w5 (HS.out _ Hb5.out))
  have hSe : (safeR s.xs).2 = chkT s.xs := by
    rw [safeR]
    by_cases hc : chkT s.xs = 0
    · rw [if_pos hc, hc]
    · rw [if_neg hc]
  unfold IRes at HSf
  rw [hSe] at HSf
  clear hrx hrA hb5 hSe
  generalize (safeR s.xs).1 = SL at *
  go_wp2_with fail
  refine HSf.out.mono ?_
  rintro e w6 ⟨v6, rfl, hOw, hb6⟩
  obtain ⟨y, rfl, hyx, hyA, _, _⟩ := IntsAt.of_ow hOw
  have Hb6 := hid (Below.step Hb5.out hb6 hz5)
  have hz6 := Hb6.out.size
  have HyA := hid hyA
  have Hyx := hid hyx
  have HrA6 := hid (HrA.out.stays0 hb6)
  clear hOw hb6 hyA hyx
  go_wp2_with fail
  refine (error_any _ _ w6 (HG.out _ Hb6.out)).mono ?_
  rw [beq_self_eq_true]
  rintro e w7 ⟨rfl, hb7⟩
  have Hb7 := hid (Below.step Hb6.out hb7 hz6)
  have hz7 := Hb7.out.size
  have HE := hid (ints_any y r w7 (HyA.out.stays0 hb7) (HrA6.out.stays0 hb7))
  rw [Hyx.out, Hrx.out, sameI_self] at HE
  clear hb7
  rw [Hyx.out, Hrx.out]
  go_wp2_with fail
  refine HE.out.mono ?_
  rintro e w8 ⟨rfl, hb8⟩
  have Hb8 := hid (Below.step Hb7.out hb8 hz7)
  have hz8 := Hb8.out.size
  clear hb8
  go_wp2_with fail
  refine (rcache_any m w8 (HM.out _ Hb8.out).entries).mono ?_
  rintro e w9 ⟨rfl, hb9⟩
  have Hb9 := hid (Below.step Hb8.out hb9 hz8)
  have hz9 := Hb9.out.size
  clear hb9
  go_upto_region 35 with fail
  obtain ⟨b2, hb2⟩ : ∃ b2, b2 = ((chkC m.xs == 0) && !seqB mk) := ⟨_, rfl⟩
  have Hbb2 := hid hb2
  clear hb2
  go_cut [165] (fun t wx => t = .bool b2 ∧ wx = w9)
  case first =>
    as_aux_lemma =>
    rcases hcb : (chkC m.xs == 0) with _ | _
    · have hb2 := Hbb2.out
      rw [hcb, Bool.false_and] at hb2
      have Hb2 := hid hb2
      clear hb2
      go_wp2_with fail
      all_goals
        go_meet
        exact ⟨by rw [Hb2.out], rfl⟩
    · have hb2 := Hbb2.out
      rw [hcb, Bool.true_and] at hb2
      have Hb2 := hid hb2
      clear hb2
      rcases (show mk < 0 ∨ (0 ≤ mk ∧ 1000 < mk) ∨ (0 ≤ mk ∧ mk ≤ 1000) by omega) with h0 | ⟨h0, h1⟩ | ⟨h0, h1⟩
      all_goals
        go_wp2_with fail
        go_meet
        refine ⟨?_, rfl⟩
        rw [Hb2.out]
        congr 1
        first
          | (rw [show seqB mk = false from seqB_false.2 (by omega)]; simp; done)
          | (rw [show seqB mk = true from seqB_true.2 (by omega)]; simp; done)
          | (rw [show seqB mk = false from seqB_false.2 (by omega)]; simp; omega)
          | (rw [show seqB mk = true from seqB_true.2 (by omega)]; simp; omega)
  case rest =>
  obtain ⟨rfl, hwc⟩ := hcut
  obtain rfl : w9 = wc := hwc.symm
  go_upto_if 165 with fail
  go_cut [9] (fun t wx => t = .int .i64 (sweepR m.xs mk).2 ∧ wx = w9)
  case first =>
    as_aux_lemma =>
    by_cases hc : chkC m.xs = 0
    · have hcb : (chkC m.xs == 0) = true := by rw [hc]; rfl
      have HC := hid hc
      rcases (show seqB mk = false ∨ seqB mk = true by cases seqB mk <;> simp) with hk | hk
      · have hq : b2 = true := by rw [Hbb2.out, hcb, hk]; rfl
        subst hq
        have HF := hid (show (sweepR m.xs mk).2 = 1 by rw [sweepR, if_pos hc, hk, if_neg (by decide)])
        clear hc hk
        go_wp2_with fail
        go_meet
        exact ⟨by rw [HF.out], rfl⟩
      · have hq : b2 = false := by rw [Hbb2.out, hcb, hk]; rfl
        subst hq
        have HF := hid (show (sweepR m.xs mk).2 = 0 by rw [sweepR, if_pos hc, if_pos hk])
        clear hc hk
        go_wp2_with fail
        go_meet
        exact ⟨by rw [HF.out, HC.out], rfl⟩
    · have hcb : (chkC m.xs == 0) = false := by rw [beq_eq_false_iff_ne]; exact hc
      have hq : b2 = false := by rw [Hbb2.out, hcb]; rfl
      subst hq
      have HF := hid (show (sweepR m.xs mk).2 = chkC m.xs by rw [sweepR, if_neg hc])
      clear hc
      go_wp2_with fail
      go_meet
      exact ⟨by rw [HF.out], rfl⟩
  case rest =>
  obtain ⟨rfl, hwc⟩ := hcut
  obtain rfl : w9 = wc := hwc.symm
  clear Hbb2
  go_upto_block 6 with fail
  go_cut [29, 30] (fun t u wx => RowV wx t (sweepR m.xs mk).1.1 ∧ (∃ q : SlV Int, u = .slice q.A q.xs.length q.c ∧ q.xs = (sweepR m.xs mk).1.2 ∧ IntsAt wx q) ∧ Below w9.heap.size w9 wx)
  case first =>
    as_aux_lemma =>
    by_cases h0 : (sweepR m.xs mk).2 = 0
    · have hcb : ((sweepR m.xs mk).2 == 0) = true := by rw [h0]; rfl
      obtain ⟨hR, hn8⟩ : (sweepR m.xs mk).1 = (leftL mk m.xs, goneL mk m.xs) ∧ m.xs.length ≤ 8 := by
        unfold sweepR at h0 ⊢
        split
        · rename_i hc
          rw [if_pos hc] at h0
          split
          · exact ⟨rfl, (val_facts hc).2.2⟩
          · rename_i hk
            rw [if_neg hk] at h0
            cases h0
        · rename_i hc
          rw [if_neg hc] at h0
          exact absurd h0 hc
      have HR := hid hR
      have Hgd := hid (sweepR_good (m := mk) Hmg.out)
      clear h0 hR
      go_wp2_with fail
      go_loopw [29, 30, 31] (fun t u i wr => ∃ j : Nat, j ≤ m.xs.length ∧ i = .int .i64 j ∧ Ow E.cells 5 w9.heap.size 26 wr t (leftL mk (m.xs.take j)) ∧ Ow cellI 1 w9.heap.size 3 wr u (goneL mk (m.xs.take j)) ∧ Below w9.heap.size w9 wr) (fun _ _ i _ => m.xs.length - (intOf i).toNat)
      case atStart => exact ⟨0, Nat.zero_le _, rfl, Ow.nil _ _ _ _ _, Ow.nil _ _ _ _ _, Below.refl _ _⟩
      case round =>
        obtain ⟨j, hj, rfl, hOt, hOu, hbr⟩ := hrel
        have hz0 := hbr.size
        have HOt := hid hOt
        have HOu := hid hOu
        clear hOt hOu
        by_cases hlt : j < m.xs.length
        · obtain ⟨g, off, hA, hg, hcells⟩ := (HM.out wr (Below.step Hb9.out hbr hz9)).row (by omega)
          obtain ⟨k0, k1, k2, k3, k4⟩ := hcells j hlt
          have hl1 : (leftL mk (m.xs.take j)).length ≤ 8 := by
            have h1 := leftL_len mk (m.xs.take j)
            have h2 : (m.xs.take j).length ≤ j := by rw [List.length_take]; omega
            omega
          have hl2 : (goneL mk (m.xs.take j)).length ≤ 8 := by
            have h1 := goneL_len mk (m.xs.take j)
            have h2 : (m.xs.take j).length ≤ j := by rw [List.length_take]; omega
            omega
          have hs1 := leftL_snoc mk (m.xs.take j) (m.xs.getD j E.zero)
          have hs2 := goneL_snoc mk (m.xs.take j) (m.xs.getD j E.zero)
          rw [← take_snocD E.zero hlt] at hs1 hs2
          generalize m.xs.getD j E.zero = x at *
          generalize leftL mk (m.xs.take j) = L1 at *
          generalize goneL mk (m.xs.take j) = L2 at *
          obtain ⟨xk, xv, xa, xg, xt⟩ := x
          simp only at k0 k1 k2 k3 k4
          have Hrg := hid (range5 k0 k1 k2 k3 k4)
          rw [hA]
          clear hA hcells
          rcases hsw : sweptB mk ⟨xk, xv, xa, xg, xt⟩ with _ | _
          · rw [hsw, if_neg (by decide)] at hs1 hs2
            have Hs1 := hid hs1
            have Hs2 := hid hs2
            have hcase : xg = false ∨ (xg = true ∧ mk < xv) := by
              rcases xg with _ | _
              · exact .inl rfl
              · refine .inr ⟨rfl, ?_⟩
                simp [sweptB] at hsw
                exact hsw
            clear hs1 hs2 hsw
            rcases hcase with rfl | ⟨rfl, hxv⟩
            all_goals
              go_wp2_with (first | (with_reducible refine at_loadE rfl ?_; refine ldE rfl _ rfl g (off + j * 5) rfl _ _ _ _ _ Hrg.out ?_) | (with_reducible refine at_buildE rfl ?_; refine bdE rfl _ rfl _ _ _ _ _ rfl ?_) | (at_builtin; refine appE _ w9.heap.size _ L1 xk xv xa _ xt HOt.out rfl _ _ rfl rfl rfl ?_ ?_ ?_ ?_))
              any_goals (first | (with_reducible rfl) | omega | exact World.size_alloc _ _ | (show _ ≤ _; rw [World.size_alloc]; omega))
              intro v8 w8 h8 f8 o8
              have hu8 := HOt.out.keep HOu.out (by decide) f8
              have hb8 : Below w9.heap.size w9 w8 := hbr.trans (f8.below0 hz0 (fun i hi => HOt.out.ge _ hi))
              go_wp2_with fail
              go_roundw
              case rel => exact ⟨j + 1, by omega, by go_num, by rw [Hs1.out]; exact h8, by rw [Hs2.out]; exact hu8, hb8⟩
              case measure => simp [intOf]; omega
          · rw [hsw, if_pos rfl] at hs1 hs2
            have Hs1 := hid hs1
            have Hs2 := hid hs2
            obtain ⟨rfl, hxv⟩ : xg = true ∧ xv ≤ mk := by simpa [sweptB] using hsw
            clear hs1 hs2 hsw
            go_wp2_with (at_builtin; refine appI _ w9.heap.size _ L2 xk HOu.out rfl _ _ rfl rfl rfl ?_ ?_ ?_ ?_)
            any_goals (first | (with_reducible rfl) | omega | exact World.size_alloc _ _ | (show _ ≤ _; rw [World.size_alloc]; omega))
            intro v8 w8 h8 f8 o8
            have ht8 := HOu.out.keep HOt.out (by decide) f8
            have hb8 : Below w9.heap.size w9 w8 := hbr.trans (f8.below0 hz0 (fun i hi => HOu.out.ge _ hi))
            go_wp2_with fail
            go_roundw
            case rel => exact ⟨j + 1, by omega, by go_num, by rw [Hs1.out]; exact ht8, by rw [Hs2.out]; exact h8, hb8⟩
            case measure => simp [intOf]; omega
        · obtain rfl : j = m.xs.length := by omega
          rw [List.take_length] at HOt HOu
          obtain ⟨q, rfl, hqx, hqA, _, _⟩ := IntsAt.of_ow HOu.out
          have Hqx := hid hqx
          have HRv := hid (RowV.of_ow HOt.out (by have := Hgd.out; rw [HR.out] at this; exact this))
          clear hqx HOt HOu
          go_wp2_with fail
          go_meet
          rw [HR.out]
          exact ⟨HRv.out, ⟨q, rfl, Hqx.out, hqA⟩, hbr⟩
    · have hcb : ((sweepR m.xs mk).2 == 0) = false := by rw [beq_eq_false_iff_ne]; exact h0
      have HR := hid (show (sweepR m.xs mk).1 = ([], []) by
        unfold sweepR at h0 ⊢
        split
        · rename_i hc
          rw [if_pos hc] at h0
          split
          · rename_i hk
            rw [if_pos hk] at h0
            exact absurd rfl h0
          · rfl
        · rfl)
      clear h0
      by_cases hm0 : 0 < m.xs.length
      all_goals
        go_wp2_with fail
        go_loopw [29, 30, 31] (fun v u i wr => v = .slice none 0 0 ∧ u = .slice none 0 0 ∧ i = .int .i64 0 ∧ wr = w9) (fun _ _ _ _ => 0)
        case atStart => exact ⟨rfl, rfl, rfl, rfl⟩
        case round =>
          obtain ⟨rfl, rfl, rfl, rfl⟩ := hrel
          go_wp2_with fail
          go_meet
          rw [HR.out]
          exact ⟨RowV.nil _, ⟨⟨none, 0, []⟩, rfl, rfl, IntsAt.bare _ _ _⟩, Below.refl _ _⟩
  case rest =>
  obtain ⟨hRv, ⟨q, rfl, hqx, hqA⟩, hb10⟩ := hcut
  obtain ⟨w10, rfl⟩ : ∃ w10 : World, w10 = wc := ⟨_, rfl⟩
  obtain ⟨lf, rfl, hlx, hlA⟩ := hRv
  have Hlx := hid hlx
  have HlA := hid hlA
  have Hqx := hid hqx
  have HqA := hid hqA
  have Hb10 := hid (Below.step Hb9.out hb10 hz9)
  have hz10 := Hb10.out.size
  have HSw := hid (sweep_any m mk w10 (HM.out _ Hb10.out).entries)
  have Hgd := hid (sweepR_good (m := mk) Hmg.out)
  clear hlx hlA hqx hqA hb10
  generalize sweepR m.xs mk = SW at *
  obtain ⟨⟨L1, L2⟩, se⟩ := SW
  go_wp2_with fail
  refine HSw.out.mono ?_
  rintro e w11 ⟨v11, u11, rfl, hOv, hOu, hb11⟩
  obtain ⟨x, rfl, hxx, hxA⟩ := RowV.of_ow hOv Hgd.out
  obtain ⟨z, rfl, hzx, hzA, _, _⟩ := IntsAt.of_ow hOu
  have Hb11 := hid (Below.step Hb10.out hb11 hz10)
  have hz11 := Hb11.out.size
  have HxA := hid hxA
  have Hxx := hid hxx
  have HzA := hid hzA
  have Hzx := hid hzx
  have HlA11 := hid (HlA.out.stays hb11)
  have HqA11 := hid (HqA.out.stays0 hb11)
  clear hOv hOu hb11 hxA hxx hzA hzx
  go_wp2_with fail
  refine (error_any _ _ w11 (HG.out _ Hb11.out)).mono ?_
  rw [beq_self_eq_true]
  rintro e w12 ⟨rfl, hb12⟩
  have Hb12 := hid (Below.step Hb11.out hb12 hz11)
  have hz12 := Hb12.out.size
  have HzA12 := hid (HzA.out.stays0 hb12)
  have HqA12 := hid (HqA11.out.stays0 hb12)
  have HE2 := hid (ecache_any x lf w12 (HxA.out.stays hb12) (HlA11.out.stays hb12))
  rw [Hxx.out, Hlx.out, eqsE_refl] at HE2
  clear hb12
  rw [Hxx.out, Hlx.out]
  go_wp2_with fail
  refine HE2.out.mono ?_
  rintro e w13 ⟨rfl, hb13⟩
  have Hb13 := hid (Below.step Hb12.out hb13 hz12)
  have hz13 := Hb13.out.size
  have HE3 := hid (ints_any z q w13 (HzA12.out.stays0 hb13) (HqA12.out.stays0 hb13))
  rw [Hzx.out, Hqx.out, sameI_self] at HE3
  clear hb13
  rw [Hzx.out, Hqx.out]
  go_wp2_with fail
  refine HE3.out.mono ?_
  rintro e w14 ⟨rfl, hb14⟩
  have Hb14 := hid (Below.step Hb13.out hb14 hz13)
  clear hb14
  go_wp2_with fail
  go_ret
  exact ⟨rfl, Hb14.out⟩

set_option maxRecDepth 100000 in
theorem tombTells_walk : LawWalk Tryd.prog 4 Tryd.f4 Gl := by
  intro W base args H enc ds p hval hA hgl
  rw [Tryd.params4] at hA hval
  obtain ⟨v0, v1, v2, v3, d0, d1, d2, d3, p0, p1, p2, p3, rfl, rfl, rfl, h0, h1, h2, h3⟩ := trodAll_four hA
  obtain ⟨s, rfl, hs⟩ := arg_slice Tryd.underlying42 codecEntries (pos_of_eq Tryd.cellsEntries (by decide)) (hval 0 42 v0 rfl rfl) h0
  obtain ⟨k, rfl, _⟩ := arg_int Tryd.underlying3 (hval 1 3 v1 rfl rfl) h1
  obtain ⟨m, rfl, hm⟩ := arg_slice Tryd.underlying22 codecEntry (pos_of_eq Tryd.cellsEntry (by decide)) (hval 2 22 v2 rfl rfl) h2
  obtain ⟨mk, rfl, _⟩ := arg_int Tryd.underlying3 (hval 3 3 v3 rfl rfl) h3
  exact tombTells_any s k m mk W (cachesAt_of hs) (entriesAt_of hm).es hgl

set_option maxRecDepth 100000 in
theorem tombTells_lifted (os : Os) (started : os.Started) (H : Type) (enc : TypeId × Value → H) :
    ReturnsInHanded {} Tryd.checked os 4 .any (fun w args => (Rows.tombTellsSpec.pre enc Tryd.checked.prog Tryd.f4 [] false w args ∧ laidMetH Tryd.prog theLaid w) ∧ sizedMet enc Tryd.checked.prog Tryd.f4 (OpenSpec.ofChange Rows.tombTellsSpec) false w args) (Rows.tombTellsSpec.post enc Tryd.checked.prog Tryd.f4 false true false false) :=
  laid_lifted (C := Tryd.checked) theLaid (fun _ h => handle_of_laid h) [] Tryd.own started (by kernel_rfl) Tryd.func4 Tryd.laidOut (by kernel_rfl) rfl Tryd.underlying4 rfl (fun ds h => by match ds, h with | [_, _, _, _], _ => rfl)
    (ChangeSpec.witness_at (enc := enc) (C := Tryd.checked) (os := os) (X := fun w _ => laidMetH Tryd.prog theLaid w) false (laidWorld os) #[.slice none 0 0, .int .i64 0, .slice none 0 0, .int .i64 0] 8 rfl (by kernel_rfl) (by kernel_rfl) (by kernel_rfl) (by kernel_rfl) (by kernel_rfl) (laidWorld_met os _)) tombTells_walk

theorem tombTells_row : Rows.TombTellsSaid :=
  OpenClaim.holds_of_wide 4 Tryd.f4 rfl rfl rfl rfl rfl rfl rfl ⟨rfl, rfl, rfl, rfl, rfl⟩ rfl rfl rfl rfl rfl (by kernel_rfl) Tryd.func4 (by kernel_rfl)
    (of_decide_eq_true (by kernel_rfl)) (by unfold Func.isWrapper; rw [if_neg (of_decide_eq_false (by kernel_rfl))]; exact ⟨rfl, rfl⟩)
    (fun os started H enc _ => tombTells_lifted os started H enc)

theorem tombTells_holds : Rows.TombTellsCardSaid :=
  Claim7.holds_tied_plain_at .later [] [.handle] true _ true
    tombTells_row (fun _ h => by cases h) (by kernel_rfl) (fun _ h => by cases h) tombTells_row_tie rfl ⟨rfl, rfl⟩ (by kernel_rfl) rfl
    (fun f fn hf hfn => by
      obtain rfl : f = 4 := Option.some.inj ((show Tryd.prog.funcNamed "beaconmere/merelaw1.TombTells" = some 4 by kernel_rfl).symm.trans hf) |>.symm
      obtain rfl : fn = Tryd.f4 := (Option.some.inj (Tryd.func4.symm.trans hfn)).symm
      refine ⟨by kernel_rfl, fun j t ht => ?_⟩
      have hall : Tryd.f4.params.toList.all (fun t => !Tryd.prog.wantsStandIn t) = true := by kernel_rfl
      have hm : t ∈ Tryd.f4.params.toList := by
        obtain ⟨hj, hje⟩ := Array.getElem?_eq_some_iff.1 ht
        rw [← hje]
        exact Array.mem_toList_iff.2 (Array.getElem_mem hj)
      have := List.all_eq_true.1 hall t hm
      exact (show Tryd.prog.wantsStandIn t = false by simpa using this))
    (by kernel_rfl)

end Go.Proofs.YthjbebngedajiaaDoor
