/-
  PROVED HERE: merelaw1.FreshTells returns true: any key not older than any floor, which are stale, and what somebody who knows says are as the document says. CONDITIONS: errors.errorType as the program's text lays it (tied by the card).
-/
import Derived.Test.YthjbebngedajiaaDoorTouchLaw
import Derived.Test.YthjbebngedajiaaDoorELd
import Derived.Test.YthjbebngedajiaaDoorDoor
import Derived.Deep.DeepCutAuto
import Derived.Deep.CutBlock
namespace Go.Proofs.YthjbebngedajiaaDoor
open Go.RowKit
open Go.ChangeShapes Go.WideShapes Go.ChangeAt

set_option maxHeartbeats 16000000 in
set_option maxRecDepth 100000 in
theorem freshTells_any (s : SlV E) (k f v q : Int) (w : World) (hq : -9223372036854775808 ≤ q ∧ q ≤ 9223372036854775807) (hs : EsAt w s) (hgl : Gl w) :
    Calls Tryd.prog 3 #[.slice s.A s.xs.length s.c, .int .i64 k, .int .i64 f, .int .i64 v, .int .i64 q] w fun e w' => e = .returned (.bool true) ∧ Below w.heap.size w w' := by
  have HS := hid (fun W (hW : Below w.heap.size w W) => hs.stays hW)
  have HG := hid (fun W (hW : Below w.heap.size w W) => hgl.belowS hW)
  have Hq := hid hq
  have Hsg := hid hs.each
  have hlen := hs.len
  unfold maxLen at hlen
  clear hs hgl hq
  go_enter Tryd.func3, Tryd.ntmps3
  go_upto_region 2 with fail
  obtain ⟨bb, hbb⟩ : ∃ bb, bb = !seqB f := ⟨_, rfl⟩
  have Hbb := hid hbb
  clear hbb
  go_cut [34] (fun t wx => t = .bool bb ∧ wx = w)
  case first =>
    as_aux_lemma =>
    rcases (show f < 0 ∨ (0 ≤ f ∧ 1000 < f) ∨ (0 ≤ f ∧ f ≤ 1000) by omega) with h0 | ⟨h0, h1⟩ | ⟨h0, h1⟩
    all_goals
      go_wp2_with fail
      go_meet
      refine ⟨?_, rfl⟩
      rw [Hbb.out]
      congr 1
      first
        | (rw [show seqB f = false from seqB_false.2 (by omega)]; simp; done)
        | (rw [show seqB f = true from seqB_true.2 (by omega)]; simp; done)
        | (rw [show seqB f = false from seqB_false.2 (by omega)]; simp; omega)
        | (rw [show seqB f = true from seqB_true.2 (by omega)]; simp; omega)
  case rest =>
  obtain ⟨rfl, hwc⟩ := hcut
  obtain rfl : w = wc := hwc.symm
  have hlen8 : (staleR s.xs f).2 = 0 → s.xs.length ≤ 8 := fun h => by
    unfold staleR at h
    split at h
    · split at h
      · rename_i hc
        exact (val_facts hc).2.2
      · rename_i hc
        exact absurd h hc
    · cases h
  have HL8 := hid hlen8
  clear hlen8
  go_upto_if 34 with fail
  go_cut [11] (fun t wx => t = .int .i64 (staleR s.xs f).2 ∧ Below w.heap.size w wx)
  case first =>
    as_aux_lemma =>
    rcases (show seqB f = false ∨ seqB f = true by cases seqB f <;> simp) with hf | hf
    · have h1 : bb = true := by rw [Hbb.out, hf]; rfl
      subst h1
      have HR := hid (show (staleR s.xs f).2 = 1 by rw [staleR, hf, if_neg (by decide)])
      clear hf
      go_wp2_with fail
      go_meet
      exact ⟨by rw [HR.out], Below.refl _ _⟩
    · have h1 : bb = false := by rw [Hbb.out, hf]; rfl
      subst h1
      have HR := hid (show (staleR s.xs f).2 = chkC s.xs by
        rw [staleR, if_pos hf]
        by_cases hc : chkC s.xs = 0
        · rw [if_pos hc, hc]
        · rw [if_neg hc])
      clear hf
      go_wp2_with fail
      refine (rcache_any s w (HS.out _ (Below.refl _ _)).entries).mono ?_
      rintro e w1 ⟨rfl, hb1⟩
      go_wp2_with fail
      go_meet
      exact ⟨by rw [HR.out], hb1⟩
  case rest =>
  obtain ⟨rfl, hb1⟩ := hcut
  obtain ⟨w1, rfl⟩ : ∃ w1 : World, w1 = wc := ⟨_, rfl⟩
  have Hb1 := hid hb1
  have hz1 := hb1.size
  clear hb1 Hbb
  go_upto_block 0 with fail
  go_cut [13] (fun t wx => ∃ r : SlV Int, t = .slice r.A r.xs.length r.c ∧ r.xs = (staleR s.xs f).1 ∧ IntsAt wx r ∧ Below w1.heap.size w1 wx)
  case first =>
    as_aux_lemma =>
      by_cases h0 : (staleR s.xs f).2 = 0
      · have hcb : ((staleR s.xs f).2 == 0) = true := by rw [h0]; rfl
        have hn := HL8.out h0
        have HR := hid (show (staleR s.xs f).1 = staleL f s.xs by
          unfold staleR at h0 ⊢
          split
          · rename_i hc
            rw [if_pos hc] at h0
            split
            · rfl
            · rename_i hc2
              rw [if_neg hc2] at h0
              exact absurd h0 hc2
          · rename_i hc
            rw [if_neg hc] at h0
            cases h0)
        clear h0
        go_wp2_with fail
        go_loopw [13, 14] (fun o i wr => ∃ j : Nat, j ≤ s.xs.length ∧ i = .int .i64 j ∧ Ow cellI 1 w1.heap.size 3 wr o (staleL f (s.xs.take j)) ∧ Below w1.heap.size w1 wr) (fun _ i _ => s.xs.length - (intOf i).toNat)
        case atStart => exact ⟨0, Nat.zero_le _, rfl, Ow.nil _ _ _ _ _, Below.refl _ _⟩
        case round =>
          obtain ⟨j, hj, rfl, hOw, hbr⟩ := hrel
          have hz0 := hbr.size
          have HO := hid hOw
          have HGe := hid hOw.ge
          clear hOw
          by_cases hlt : j < s.xs.length
          · obtain ⟨g, off, hA, hg, hcells⟩ := (HS.out _ Hb1.out).row (by omega)
            obtain ⟨k0, k1, k2, k3, k4⟩ := (hcells j hlt).stays hbr hg
            have hln : (staleL f (s.xs.take j)).length ≤ 8 := by
              have h1 := staleL_len f (s.xs.take j)
              have h2 : (s.xs.take j).length ≤ j := by rw [List.length_take]; omega
              omega
            have hsn := staleL_snoc f (s.xs.take j) (s.xs.getD j E.zero)
            rw [← take_snocD E.zero hlt] at hsn
            generalize s.xs.getD j E.zero = x at *
            generalize staleL f (s.xs.take j) = L at *
            obtain ⟨xk, xv, xa, xg, xt⟩ := x
            simp only at k0 k1 k2 k3 k4 hsn
            rw [hA]
            clear hA hcells
            by_cases hst : xa < f
            · rw [if_pos hst] at hsn
              have Hsn := hid hsn
              clear hsn
              go_wp2_with (at_builtin; refine appI _ w1.heap.size _ L xk (HO.out.belowS (by (repeat (first | with_reducible exact Below.refl _ _ | with_reducible assumption | (with_reducible refine Below.drew ?_) | (with_reducible refine Below.manyDrew ?_ _) | ((with_reducible refine Below.alloc ?_ ?_ _); rotate_left; (focus (first | omega | (dsimp only; omega) | (simp; done) | (simp; omega)))) | ((with_reducible refine Below.setCell ?_ ?_ _); rotate_left; (focus (first | omega | (dsimp only; omega) | (simp; done) | (simp; omega)))) | ((with_reducible refine Below.step ?_ (by assumption) ?_); rotate_left; (focus (first | omega | (dsimp only; omega) | (simp; done) | (simp; omega)))))))) rfl _ _ rfl rfl rfl ?_ ?_ ?_ ?_)
              any_goals (first | (with_reducible rfl) | omega | exact World.size_alloc _ _ | (show _ ≤ _; rw [World.size_alloc]; omega))
              intro v8 w8 h8 f8 o8
              have hb8 := hbr.trans (f8.below0 (B := w1.heap.size) hz0 (fun i hi => HGe.out _ hi))
              go_wp2_with fail
              go_roundw
              case rel => exact ⟨j + 1, by omega, by go_num, by rw [Hsn.out]; exact h8, hb8⟩
              case measure => simp [intOf]; omega
            · rw [if_neg hst] at hsn
              have Hsn := hid hsn
              clear hsn
              go_wp2_with fail
              go_roundw
              case rel => exact ⟨j + 1, by omega, by go_num, by rw [Hsn.out]; exact HO.out.belowS (by (repeat (first | with_reducible exact Below.refl _ _ | with_reducible assumption | (with_reducible refine Below.drew ?_) | (with_reducible refine Below.manyDrew ?_ _) | ((with_reducible refine Below.alloc ?_ ?_ _); rotate_left; (focus (first | omega | (dsimp only; omega) | (simp; done) | (simp; omega)))) | ((with_reducible refine Below.setCell ?_ ?_ _); rotate_left; (focus (first | omega | (dsimp only; omega) | (simp; done) | (simp; omega)))) | ((with_reducible refine Below.step ?_ (by assumption) ?_); rotate_left; (focus (first | omega | (dsimp only; omega) | (simp; done) | (simp; omega))))))), by (repeat (first | with_reducible exact Below.refl _ _ | with_reducible assumption | (with_reducible refine Below.drew ?_) | (with_reducible refine Below.manyDrew ?_ _) | ((with_reducible refine Below.alloc ?_ ?_ _); rotate_left; (focus (first | omega | (dsimp only; omega) | (simp; done) | (simp; omega)))) | ((with_reducible refine Below.setCell ?_ ?_ _); rotate_left; (focus (first | omega | (dsimp only; omega) | (simp; done) | (simp; omega)))) | ((with_reducible refine Below.step ?_ (by assumption) ?_); rotate_left; (focus (first | omega | (dsimp only; omega) | (simp; done) | (simp; omega))))))⟩
              case measure => simp [intOf]; omega
          · obtain rfl : j = s.xs.length := by omega
            rw [List.take_length] at HO
            obtain ⟨r, rfl, hrx, hrA, hro, _⟩ := IntsAt.of_ow HO.out
            have Hrx := hid hrx
            clear hrx HO HGe
            go_wp2_with fail
            go_meet
            exact ⟨r, rfl, by rw [Hrx.out, HR.out], hrA, hbr⟩
      · have hcb : ((staleR s.xs f).2 == 0) = false := by rw [beq_eq_false_iff_ne]; exact h0
        have HR := hid (show (staleR s.xs f).1 = [] by
          unfold staleR at h0 ⊢
          split
          · rename_i hc
            rw [if_pos hc] at h0
            split
            · rename_i hc2
              rw [if_pos hc2] at h0
              exact absurd rfl h0
            · rfl
          · rfl)
        clear h0
        by_cases hm0 : 0 < s.xs.length
        all_goals
          go_wp2_with fail
          go_loopw [13, 14] (fun v i wr => v = .slice none 0 0 ∧ i = .int .i64 0 ∧ wr = w1) (fun _ _ _ => 0)
          case atStart => exact ⟨rfl, rfl, rfl⟩
          case round =>
            obtain ⟨rfl, rfl, rfl⟩ := hrel
            go_wp2_with fail
            go_meet
            exact ⟨⟨none, 0, []⟩, rfl, HR.out.symm, IntsAt.bare _ _ _, Below.refl _ _⟩
  case rest =>
  obtain ⟨r, rfl, hrx, hrA, hb2⟩ := hcut
  obtain ⟨w2, rfl⟩ : ∃ w2 : World, w2 = wc := ⟨_, rfl⟩
  have Hrx := hid hrx
  have HrA := hid hrA
  have Hb2 := hid (Below.step Hb1.out hb2 hz1)
  have hz2 := Hb2.out.size
  have HSt := hid (stale_any s f w2 (HS.out _ Hb2.out).entries)
  clear hrx hrA hb2
  obtain ⟨SR, hSR⟩ : ∃ SR, staleR s.xs f = SR := ⟨_, rfl⟩
  have HSR := hid hSR
  rw [hSR] at HSt Hrx HL8 ⊢
  clear hSR
  obtain ⟨L, fe⟩ := SR
  go_wp2_with fail
  refine HSt.out.mono ?_
  rintro e w3 ⟨v3, rfl, hOw, hb3⟩
  obtain ⟨y, rfl, hyx, hyA, _, _⟩ := IntsAt.of_ow hOw
  have Hb3 := hid (Below.step Hb2.out hb3 hz2)
  have hz3 := Hb3.out.size
  have HyA := hid hyA
  have Hyx := hid hyx
  have HrA3 := hid (HrA.out.stays0 hb3)
  clear hOw hb3 hyA hyx
  go_wp2_with fail
  refine (error_any _ _ w3 (HG.out _ Hb3.out)).mono ?_
  rw [beq_self_eq_true]
  rintro e w4 ⟨rfl, hb4⟩
  have Hb4 := hid (Below.step Hb3.out hb4 hz3)
  have hz4 := Hb4.out.size
  have HE := hid (ints_any y r w4 (HyA.out.stays0 hb4) (HrA3.out.stays0 hb4))
  rw [Hyx.out, Hrx.out, sameI_self] at HE
  clear hb4
  rw [Hyx.out, Hrx.out]
  go_wp2_with fail
  refine HE.out.mono ?_
  rintro e w5 ⟨rfl, hb5⟩
  have Hb5 := hid (Below.step Hb4.out hb5 hz4)
  have hz5 := Hb5.out.size
  clear hb5
  go_wp2_with fail
  refine (rkey_any k _).mono ?_
  rintro e w5' ⟨rfl, rfl⟩
  have HRg := hid (rget_any s k w5 (HS.out _ Hb5.out).entries)
  obtain ⟨RG, hRG⟩ : ∃ RG, rget s.xs k = RG := ⟨_, rfl⟩
  rw [hRG] at HRg
  have HRG := hid hRG
  clear hRG
  obtain ⟨⟨y0, y1, y2, y3, y4⟩, yb⟩ := RG
  unfold E.val at HRg
  go_wp2_with fail
  refine HRg.out.mono ?_
  rintro e w6 ⟨rfl, hb6⟩
  have Hb6 := hid (Below.step Hb5.out hb6 hz5)
  have hz6 := Hb6.out.size
  clear hb6
  go_upto_region 17 with fail
  obtain ⟨wg, hwg⟩ : ∃ wg : World, wg = (w6.alloc (.cells #[.int .i64 y0, .int .i64 y1, .int .i64 y2, .bool y3, .string y4] 26)).alloc (.cells #[.int .i64 0, .int .i64 0, .int .i64 0, .bool false, .string ⟨#[]⟩] 26) := ⟨_, rfl⟩
  rw [← hwg]
  have HHd := hid (show Blk wg w6.heap.size 26 #[.int .i64 y0, .int .i64 y1, .int .i64 y2, .bool y3, .string y4] by rw [hwg]; exact (Blk.new _ _ _).alloc _)
  have HBg := hid (show Blk wg (w6.heap.size + 1) 26 #[.int .i64 0, .int .i64 0, .int .i64 0, .bool false, .string ⟨#[]⟩] by rw [hwg]; exact Blk.new_at (by simp))
  have Hbg := hid (show Below w.heap.size w wg by rw [hwg]; have hb6 := Hb6.out; (repeat (first | with_reducible exact Below.refl _ _ | with_reducible assumption | (with_reducible refine Below.drew ?_) | (with_reducible refine Below.manyDrew ?_ _) | ((with_reducible refine Below.alloc ?_ ?_ _); rotate_left; (focus (first | omega | (dsimp only; omega) | (simp; done) | (simp; omega)))) | ((with_reducible refine Below.setCell ?_ ?_ _); rotate_left; (focus (first | omega | (dsimp only; omega) | (simp; done) | (simp; omega)))) | ((with_reducible refine Below.step ?_ (by assumption) ?_); rotate_left; (focus (first | omega | (dsimp only; omega) | (simp; done) | (simp; omega)))))))
  have hzg := Hbg.out.size
  clear hwg
  have hfe : fe = (staleR s.xs f).2 := by rw [HSR.out]
  have Hfe := hid hfe
  clear hfe
  obtain ⟨b2, hb2⟩ : ∃ b2, b2 = ((fe == 0) && !keyB k) := ⟨_, rfl⟩
  have Hbb2 := hid hb2
  clear hb2
  go_cut [90] (fun t wx => t = .bool b2 ∧ wx = wg)
  case first =>
    as_aux_lemma =>
    rcases hcb : (fe == 0) with _ | _
    all_goals
      have hb2 := Hbb2.out
      rw [hcb] at hb2
      have Hb2 := hid hb2
      clear hb2
      go_wp2_with fail
      all_goals
        go_meet
        exact ⟨by rw [Hb2.out]; simp, rfl⟩
  case rest =>
  obtain ⟨rfl, hwc⟩ := hcut
  obtain rfl : wg = wc := hwc.symm
  go_upto_if 90 with fail
  go_cut [12] (fun t wx => t = .int .i64 (freshR s.xs k f).2 ∧ Blk wx (w6.heap.size + 1) 26 #[.int .i64 (freshR s.xs k f).1.key, .int .i64 (freshR s.xs k f).1.ver, .int .i64 (freshR s.xs k f).1.asof, .bool (freshR s.xs k f).1.gone, .string (freshR s.xs k f).1.text] ∧ Blk wx w6.heap.size 26 #[.int .i64 y0, .int .i64 y1, .int .i64 y2, .bool y3, .string y4] ∧ Below w.heap.size w wx)
  case first =>
    as_aux_lemma =>
      have hHd := HHd.out
      have a0 := hHd.cell 0
      have a1 := hHd.cell 1
      have a2 := hHd.cell 2
      have a3 := hHd.cell 3
      have a4 := hHd.cell 4
      have f0 := HBg.out.frozen 0
      have f1 := HBg.out.frozen 1
      have f2 := HBg.out.frozen 2
      have f3 := HBg.out.frozen 3
      have f4 := HBg.out.frozen 4
      have c0 := HBg.out.cell 0
      have c1 := HBg.out.cell 1
      have c2 := HBg.out.cell 2
      have c3 := HBg.out.cell 3
      have c4 := HBg.out.cell 4
      have hlg := HBg.out.lt
      clear hHd
      by_cases h0 : fe = 0
      · have hcb : (fe == 0) = true := by rw [h0]; rfl
        obtain ⟨hf, hc⟩ : seqB f = true ∧ chkC s.xs = 0 := by
          have h := Hfe.out
          rw [h0] at h
          unfold staleR at h
          split at h
          · rename_i hf
            refine ⟨hf, ?_⟩
            split at h
            · assumption
            · exact h.symm
          · cases h
        rcases (show keyB k = false ∨ keyB k = true by cases keyB k <;> simp) with hk | hk
        · have HF := hid (show freshR s.xs k f = (E.zero, 1) by
            have hg : getR s.xs k = (E.zero, 1) := by rw [getR, if_pos hc, if_neg (by rw [hk]; decide)]
            rw [freshR, if_pos hf, hg, if_neg (by decide)])
          have hq2 : b2 = true := by rw [Hbb2.out, hcb, hk]; rfl
          subst hq2
          clear hf hc hk h0
          go_wp2_with fail
          go_meet
          rw [HF.out]
          exact ⟨rfl, HBg.out, HHd.out, Hbg.out⟩
        · have hg := getR_rget hc hk
          rw [HRG.out] at hg
          have hq2 : b2 = false := by rw [Hbb2.out, hcb, hk]; rfl
          subst hq2
          rcases yb with _ | _
          · have HF := hid (show freshR s.xs k f = (E.zero, 5) by
              rw [freshR, if_pos hf, hg, if_neg (by simp), if_neg (by simp)])
            clear hf hc hk h0 hg
            go_wp2_with fail
            go_meet
            rw [HF.out]
            exact ⟨rfl, HBg.out, HHd.out, Hbg.out⟩
          · rw [if_pos rfl] at hg
            by_cases hst : y2 < f
            · have HF := hid (show freshR s.xs k f = (E.zero, 8) by
                rw [freshR, if_pos hf, hg, if_pos rfl, if_pos hst])
              clear hf hc hk h0 hg
              go_wp2_with fail
              go_meet
              rw [HF.out]
              exact ⟨rfl, HBg.out, HHd.out, Hbg.out⟩
            · have HF := hid (show freshR s.xs k f = (⟨y0, y1, y2, y3, y4⟩, 0) by
                rw [freshR, if_pos hf, hg, if_pos rfl, if_neg hst])
              have H0 := hid h0
              clear hf hc hk h0 hg
              go_wp2_with fail
              go_meet
              rw [HF.out]
              refine ⟨by rw [H0.out], ?_, ?_, ?_⟩
              · with_reducible exact HBg.out.put5 _ _ _ _ _
              · have h1 := HHd.out
                exact ((((h1.far (by simp) _).far (by simp) _).far (by simp) _).far (by simp) _).far (by simp) _
              · have hb := Hbg.out
                (repeat (first | with_reducible exact Below.refl _ _ | with_reducible assumption | (with_reducible refine Below.drew ?_) | (with_reducible refine Below.manyDrew ?_ _) | ((with_reducible refine Below.alloc ?_ ?_ _); rotate_left; (focus (first | omega | (dsimp only; omega) | (simp; done) | (simp; omega)))) | ((with_reducible refine Below.setCell ?_ ?_ _); rotate_left; (focus (first | omega | (dsimp only; omega) | (simp; done) | (simp; omega)))) | ((with_reducible refine Below.step ?_ (by assumption) ?_); rotate_left; (focus (first | omega | (dsimp only; omega) | (simp; done) | (simp; omega))))))
      · have hcb : (fe == 0) = false := by rw [beq_eq_false_iff_ne]; exact h0
        have HF := hid (show freshR s.xs k f = (E.zero, fe) by
          have h := Hfe.out
          unfold staleR at h
          split at h
          · rename_i hf
            split at h
            · exact absurd h h0
            · rename_i hc
              rw [freshR, if_pos hf, getR, if_neg hc, if_neg (by simpa using hc)]
              rw [h]
          · rename_i hf
            rw [freshR, if_neg hf, h])
        have hq2 : b2 = false := by rw [Hbb2.out, hcb]; rfl
        subst hq2
        clear h0
        go_wp2_with fail
        go_meet
        rw [HF.out]
        exact ⟨rfl, HBg.out, HHd.out, Hbg.out⟩
  case rest =>
  obtain ⟨rfl, hBg, hHd, hbw⟩ := hcut
  obtain ⟨w7, rfl⟩ : ∃ w7 : World, w7 = wc := ⟨_, rfl⟩
  have HB7 := hid hBg
  have HH7 := hid hHd
  have Hb7 := hid hbw
  have hz7 := hbw.size
  have HGt := hid (freshGet_any s k f w7 (HS.out _ Hb7.out).entries)
  clear hBg hHd hbw HBg HHd Hbb2 Hfe HSR
  generalize freshR s.xs k f = G at *
  obtain ⟨⟨g0, g1, g2, g3, g4⟩, ge⟩ := G
  unfold E.val at HGt
  go_wp2_with fail
  refine HGt.out.mono ?_
  rintro e w8 ⟨rfl, hb8⟩
  have HB8 := hid (HB7.out.belowS hb8)
  have HH8 := hid (HH7.out.belowS hb8)
  have Hb8 := hid (Below.step Hb7.out hb8 hz7)
  have hz8 := Hb8.out.size
  clear hb8
  go_wp2_with fail
  have HZ8 := hid (Blk.new w8 26 #[.int .i64 g0, .int .i64 g1, .int .i64 g2, .bool g3, .string g4])
  have HB8' := hid (HB8.out.alloc (.cells #[.int .i64 g0, .int .i64 g1, .int .i64 g2, .bool g3, .string g4] 26))
  have HH8' := hid (HH8.out.alloc (.cells #[.int .i64 g0, .int .i64 g1, .int .i64 g2, .bool g3, .string g4] 26))
  have Hb8' := hid (Hb8.out.alloc hz8 (.cells #[.int .i64 g0, .int .i64 g1, .int .i64 g2, .bool g3, .string g4] 26))
  refine (error_any _ _ _ (HG.out _ Hb8'.out)).mono ?_
  rw [beq_self_eq_true]
  rintro e w9 ⟨rfl, hb9⟩
  have hZ := HZ8.out.belowS hb9
  have hB := HB8'.out.belowS hb9
  have HH9 := hid (HH8'.out.belowS hb9)
  have Hb9 := hid (Below.step Hb8'.out hb9 Hb8'.out.size)
  have hz9 := Hb9.out.size
  have z0 : w9.cell? ⟨w8.heap.size, 0, none⟩ = some (.int .i64 g0) := hZ.cell 0
  have z1 : w9.cell? ⟨w8.heap.size, 1, none⟩ = some (.int .i64 g1) := hZ.cell 1
  have z2 : w9.cell? ⟨w8.heap.size, 2, none⟩ = some (.int .i64 g2) := hZ.cell 2
  have z3 : w9.cell? ⟨w8.heap.size, 3, none⟩ = some (.bool g3) := hZ.cell 3
  have z4 : w9.cell? ⟨w8.heap.size, 4, none⟩ = some (.string g4) := hZ.cell 4
  have c0 : w9.cell? ⟨w6.heap.size + 1, 0, none⟩ = some (.int .i64 g0) := hB.cell 0
  have c1 : w9.cell? ⟨w6.heap.size + 1, 1, none⟩ = some (.int .i64 g1) := hB.cell 1
  have c2 : w9.cell? ⟨w6.heap.size + 1, 2, none⟩ = some (.int .i64 g2) := hB.cell 2
  have c3 : w9.cell? ⟨w6.heap.size + 1, 3, none⟩ = some (.bool g3) := hB.cell 3
  have c4 : w9.cell? ⟨w6.heap.size + 1, 4, none⟩ = some (.string g4) := hB.cell 4
  clear hZ hB hb9
  go_wp2_with fail
  refine (rcache_any s w9 (HS.out _ Hb9.out).entries).mono ?_
  rintro e w10 ⟨rfl, hb10⟩
  have HH10 := hid (HH9.out.belowS hb10)
  have Hb10 := hid (Below.step Hb9.out hb10 hz9)
  have hz10 := Hb10.out.size
  clear hb10 z0 z1 z2 z3 z4 c0 c1 c2 c3 c4
  go_upto_region 29 with fail
  obtain ⟨b3, hb3⟩ : ∃ b3, b3 = ((chkC s.xs == 0) && !keyB k) := ⟨_, rfl⟩
  have Hbb3 := hid hb3
  clear hb3
  go_cut [130] (fun t wx => t = .bool b3 ∧ wx = w10)
  case first =>
    as_aux_lemma =>
    rcases hcb : (chkC s.xs == 0) with _ | _
    all_goals
      have hb2 := Hbb3.out
      rw [hcb] at hb2
      have Hb2 := hid hb2
      clear hb2
      go_wp2_with fail
      all_goals
        go_meet
        exact ⟨by rw [Hb2.out]; simp, rfl⟩
  case rest =>
  obtain ⟨rfl, hwc⟩ := hcut
  obtain rfl : w10 = wc := hwc.symm
  go_upto_if 130 with fail
  go_cut [11] (fun t wx => t = .int .i64 (touchR s.xs k v q).2 ∧ wx = w10)
  case first =>
    as_aux_lemma =>
      have a1 : w10.cell? ⟨w6.heap.size, 1, none⟩ = some (.int .i64 y1) := HH10.out.cell 1
      have a2 : w10.cell? ⟨w6.heap.size, 2, none⟩ = some (.int .i64 y2) := HH10.out.cell 2
      by_cases hc : chkC s.xs = 0
      · have hcb : (chkC s.xs == 0) = true := by rw [hc]; rfl
        rcases (show keyB k = false ∨ keyB k = true by cases keyB k <;> simp) with hk | hk
        · have HF := hid (show (touchR s.xs k v q).2 = 1 by
            have hg : getR s.xs k = (E.zero, 1) := by rw [getR, if_pos hc, if_neg (by rw [hk]; decide)]
            rw [touchR, hg, if_neg (by decide)])
          have hq2 : b3 = true := by rw [Hbb3.out, hcb, hk]; rfl
          subst hq2
          clear hc hk
          go_wp2_with fail
          go_meet
          exact ⟨by rw [HF.out], rfl⟩
        · have hg := getR_rget hc hk
          rw [HRG.out] at hg
          have hq2 : b3 = false := by rw [Hbb3.out, hcb, hk]; rfl
          subst hq2
          rcases yb with _ | _
          · have HF := hid (show (touchR s.xs k v q).2 = 5 by
              rw [touchR, hg, if_neg (by simp), if_neg (by simp)])
            clear hc hk hg
            go_wp2_with fail
            go_meet
            exact ⟨by rw [HF.out], rfl⟩
          · rw [if_pos rfl] at hg
            have hT : (touchR s.xs k v q).2 = if seqB q = true ∧ 0 ≤ v ∧ v ≤ q then (if v < y1 ∨ (y1 < v ∧ v ≤ y2) then 7 else 0) else 1 := by
              rw [touchR, hg, if_pos rfl]
              simp only
              split
              · split
                · rfl
                · split <;> rfl
              · rfl
            have HC := hid hc
            by_cases hq : seqB q = true ∧ 0 ≤ v ∧ v ≤ q
            · rw [if_pos hq] at hT
              obtain ⟨hq0, hv0, hvq⟩ := hq
              obtain ⟨hq1, hq2⟩ := seqB_true.1 hq0
              by_cases hcl : v < y1 ∨ (y1 < v ∧ v ≤ y2)
              · rw [if_pos hcl] at hT
                have HF := hid hT
                clear hT hc hk hg hq0
                rcases hcl with hcl | ⟨hcl, hcl2⟩
                all_goals
                  go_wp2_with fail
                  go_meet
                  exact ⟨by rw [HF.out], rfl⟩
              · rw [if_neg hcl] at hT
                have HF := hid hT
                clear hT hc hk hg hq0
                rcases (show v = y1 ∨ (y1 < v ∧ y2 < v) by
                  by_cases h1 : y1 < v
                  · exact .inr ⟨h1, by
                      by_cases h2 : v ≤ y2
                      · exact absurd (.inr ⟨h1, h2⟩) hcl
                      · omega⟩
                  · by_cases h2 : v < y1
                    · exact absurd (.inl h2) hcl
                    · exact .inl (by omega)) with rfl | ⟨hv1, hv2⟩
                all_goals
                  clear hcl
                  go_wp2_with fail
                  go_meet
                  exact ⟨by rw [HF.out, HC.out], rfl⟩
            · rw [if_neg hq] at hT
              have HF := hid hT
              clear hT hc hk hg
              rcases (show q < 0 ∨ (0 ≤ q ∧ 1000 < q) ∨ (0 ≤ q ∧ q ≤ 1000 ∧ v < 0) ∨ (0 ≤ q ∧ q ≤ 1000 ∧ 0 ≤ v ∧ q < v) by
                by_cases h1 : q < 0
                · exact .inl h1
                · by_cases h2 : 1000 < q
                  · exact .inr (.inl ⟨by omega, h2⟩)
                  · by_cases h3 : v < 0
                    · exact .inr (.inr (.inl ⟨by omega, by omega, h3⟩))
                    · refine .inr (.inr (.inr ⟨by omega, by omega, by omega, ?_⟩))
                      by_cases h4 : v ≤ q
                      · exact absurd ⟨seqB_true.2 ⟨by omega, by omega⟩, by omega, h4⟩ hq
                      · omega) with hq1 | ⟨hq1, hq2⟩ | ⟨hq1, hq2, hq3⟩ | ⟨hq1, hq2, hq3, hq4⟩
              all_goals
                clear hq
                go_wp2_with fail
                go_meet
                exact ⟨by rw [HF.out], rfl⟩
      · have hcb : (chkC s.xs == 0) = false := by rw [beq_eq_false_iff_ne]; exact hc
        have HF := hid (show (touchR s.xs k v q).2 = chkC s.xs by
          have hg : getR s.xs k = (E.zero, chkC s.xs) := by rw [getR, if_neg hc]
          rw [touchR, hg, if_neg hc])
        have hq2 : b3 = false := by rw [Hbb3.out, hcb]; rfl
        subst hq2
        clear hc
        go_wp2_with fail
        go_meet
        exact ⟨by rw [HF.out], rfl⟩
  case rest =>
  obtain ⟨rfl, hwc⟩ := hcut
  obtain rfl : w10 = wc := hwc.symm
  go_upto_block 2 with fail
  go_cut [24] (fun t wx => RowV wx t (touchR s.xs k v q).1 ∧ Below w10.heap.size w10 wx)
  case first =>
    as_aux_lemma =>
      by_cases h0 : (touchR s.xs k v q).2 = 0
      · have hcb : ((touchR s.xs k v q).2 == 0) = true := by rw [h0]; rfl
        have HL := hid (touchR_left h0)
        have Hgd := hid (touchR_good (k := k) (v := v) Hq.out Hsg.out)
        have hn8 : s.xs.length ≤ 8 := by
          unfold touchR at h0
          split at h0
          · rename_i h1
            obtain ⟨x, hx⟩ : ∃ x, getR s.xs k = (x, 0) := ⟨_, by rw [← h1]⟩
            exact (val_facts (getR_ok hx).1).2.2
          · rename_i h1
            exact absurd h0 h1
        clear h0
        go_wp2_with fail
        go_loopw [24, 25] (fun o i wr => ∃ (j : Nat) (l' : List E), j ≤ s.xs.length ∧ i = .int .i64 j ∧ l' ++ leftT k v q (s.xs.drop j) = leftT k v q s.xs ∧ l'.length ≤ j ∧ Ow E.cells 5 w10.heap.size 26 wr o l' ∧ Below w10.heap.size w10 wr) (fun _ i _ => s.xs.length - (intOf i).toNat)
        case atStart => exact ⟨0, [], Nat.zero_le _, rfl, rfl, Nat.le_refl _, Ow.nil _ _ _ _ _, Below.refl _ _⟩
        case round =>
          obtain ⟨j, l', hj, rfl, hRk, hll, hOw, hbr⟩ := hrel
          have hz0 := hbr.size
          have HO := hid hOw
          have HGe := hid hOw.ge
          clear hOw
          by_cases hlt : j < s.xs.length
          · obtain ⟨g, off, hA, hg, hcells⟩ := (HS.out _ Hb10.out).row (by omega)
            obtain ⟨k0, k1, k2, k3, k4⟩ := (hcells j hlt).stays hbr hg
            rw [drop_consD E.zero hlt, leftT] at hRk
            generalize s.xs.getD j E.zero = x at *
            obtain ⟨xk, xv, xa, xg, xt⟩ := x
            simp only at k0 k1 k2 k3 k4 hRk
            have Hrg := hid (range5 k0 k1 k2 k3 k4)
            rw [hA]
            clear hA hcells
            by_cases hkk : xk = k
            · rw [if_pos hkk] at hRk
              have hkk2 := hkk.symm
              subst hkk2
              clear hkk
              by_cases hv : xv < v
              · rw [if_pos hv] at hRk
                have Hsn := hid hRk
                clear hRk
                go_wp2_with ((with_reducible refine at_loadE rfl ?_; refine ldE rfl _ rfl g (off + j * 5) rfl _ _ _ _ _ Hrg.out ?_))
                go_roundw
                case rel => exact ⟨j + 1, l', by omega, by go_num, Hsn.out, by omega, HO.out.belowS (by (repeat (first | with_reducible exact Below.refl _ _ | with_reducible assumption | (with_reducible refine Below.drew ?_) | (with_reducible refine Below.manyDrew ?_ _) | ((with_reducible refine Below.alloc ?_ ?_ _); rotate_left; (focus (first | omega | (dsimp only; omega) | (simp; done) | (simp; omega)))) | ((with_reducible refine Below.setCell ?_ ?_ _); rotate_left; (focus (first | omega | (dsimp only; omega) | (simp; done) | (simp; omega)))) | ((with_reducible refine Below.step ?_ (by assumption) ?_); rotate_left; (focus (first | omega | (dsimp only; omega) | (simp; done) | (simp; omega))))))), by (repeat (first | with_reducible exact Below.refl _ _ | with_reducible assumption | (with_reducible refine Below.drew ?_) | (with_reducible refine Below.manyDrew ?_ _) | ((with_reducible refine Below.alloc ?_ ?_ _); rotate_left; (focus (first | omega | (dsimp only; omega) | (simp; done) | (simp; omega)))) | ((with_reducible refine Below.setCell ?_ ?_ _); rotate_left; (focus (first | omega | (dsimp only; omega) | (simp; done) | (simp; omega)))) | ((with_reducible refine Below.step ?_ (by assumption) ?_); rotate_left; (focus (first | omega | (dsimp only; omega) | (simp; done) | (simp; omega))))))⟩
                case measure => simp [intOf]; omega
              · rw [if_neg hv] at hRk
                by_cases hqa : xa < q
                · rw [if_pos hqa] at hRk
                  have Hsn := hid hRk
                  clear hRk
                  go_wp2_with (first | (with_reducible refine at_loadE rfl ?_; refine ldE rfl _ rfl g (off + j * 5) rfl _ _ _ _ _ Hrg.out ?_) | (with_reducible refine at_loadE rfl ?_; refine ldE rfl _ rfl wr.heap.size 0 rfl _ _ _ _ _ (Blk.range5 (Blk.new _ _ _)) ?_) | (with_reducible refine at_buildE rfl ?_; refine bdE rfl _ rfl _ _ _ _ _ rfl ?_) | (at_builtin; refine appE _ w10.heap.size _ l' k xv q xg xt (HO.out.belowS (by (repeat (first | with_reducible exact Below.refl _ _ | with_reducible assumption | (with_reducible refine Below.drew ?_) | (with_reducible refine Below.manyDrew ?_ _) | ((with_reducible refine Below.alloc ?_ ?_ _); rotate_left; (focus (first | omega | (dsimp only; omega) | (simp; done) | (simp; omega)))) | ((with_reducible refine Below.setCell ?_ ?_ _); rotate_left; (focus (first | omega | (dsimp only; omega) | (simp; done) | (simp; omega)))) | ((with_reducible refine Below.step ?_ (by assumption) ?_); rotate_left; (focus (first | omega | (dsimp only; omega) | (simp; done) | (simp; omega)))))))) rfl _ _ rfl rfl rfl ?_ ?_ ?_ ?_))
                  any_goals (first | (with_reducible rfl) | omega | exact World.size_alloc _ _ | (show _ ≤ _; rw [World.size_alloc]; omega))
                  intro v8 w8 h8 f8 o8
                  have hb8 := (show Below w10.heap.size w10 _ by (repeat (first | with_reducible exact Below.refl _ _ | with_reducible assumption | (with_reducible refine Below.drew ?_) | (with_reducible refine Below.manyDrew ?_ _) | ((with_reducible refine Below.alloc ?_ ?_ _); rotate_left; (focus (first | omega | (dsimp only; omega) | (simp; done) | (simp; omega)))) | ((with_reducible refine Below.setCell ?_ ?_ _); rotate_left; (focus (first | omega | (dsimp only; omega) | (simp; done) | (simp; omega)))) | ((with_reducible refine Below.step ?_ (by assumption) ?_); rotate_left; (focus (first | omega | (dsimp only; omega) | (simp; done) | (simp; omega))))))).trans (f8.below0 (B := w10.heap.size) (by simp; omega) (fun i hi => by have := HGe.out _ hi; omega))
                  go_wp2_with fail
                  go_roundw
                  case rel => exact ⟨j + 1, l' ++ [⟨k, xv, q, xg, xt⟩], by omega, by go_num, by rw [List.append_assoc]; exact Hsn.out, by simp; omega, h8, hb8⟩
                  case measure => simp [intOf]; omega
                · rw [if_neg hqa] at hRk
                  have Hsn := hid hRk
                  clear hRk
                  go_wp2_with (first | (with_reducible refine at_loadE rfl ?_; refine ldE rfl _ rfl g (off + j * 5) rfl _ _ _ _ _ Hrg.out ?_) | (with_reducible refine at_loadE rfl ?_; refine ldE rfl _ rfl wr.heap.size 0 rfl _ _ _ _ _ (Blk.range5 (Blk.new _ _ _)) ?_) | (with_reducible refine at_buildE rfl ?_; refine bdE rfl _ rfl _ _ _ _ _ rfl ?_) | (at_builtin; refine appE _ w10.heap.size _ l' k xv xa xg xt (HO.out.belowS (by (repeat (first | with_reducible exact Below.refl _ _ | with_reducible assumption | (with_reducible refine Below.drew ?_) | (with_reducible refine Below.manyDrew ?_ _) | ((with_reducible refine Below.alloc ?_ ?_ _); rotate_left; (focus (first | omega | (dsimp only; omega) | (simp; done) | (simp; omega)))) | ((with_reducible refine Below.setCell ?_ ?_ _); rotate_left; (focus (first | omega | (dsimp only; omega) | (simp; done) | (simp; omega)))) | ((with_reducible refine Below.step ?_ (by assumption) ?_); rotate_left; (focus (first | omega | (dsimp only; omega) | (simp; done) | (simp; omega)))))))) rfl _ _ rfl rfl rfl ?_ ?_ ?_ ?_))
                  any_goals (first | (with_reducible rfl) | omega | exact World.size_alloc _ _ | (show _ ≤ _; rw [World.size_alloc]; omega))
                  intro v8 w8 h8 f8 o8
                  have hb8 := (show Below w10.heap.size w10 _ by (repeat (first | with_reducible exact Below.refl _ _ | with_reducible assumption | (with_reducible refine Below.drew ?_) | (with_reducible refine Below.manyDrew ?_ _) | ((with_reducible refine Below.alloc ?_ ?_ _); rotate_left; (focus (first | omega | (dsimp only; omega) | (simp; done) | (simp; omega)))) | ((with_reducible refine Below.setCell ?_ ?_ _); rotate_left; (focus (first | omega | (dsimp only; omega) | (simp; done) | (simp; omega)))) | ((with_reducible refine Below.step ?_ (by assumption) ?_); rotate_left; (focus (first | omega | (dsimp only; omega) | (simp; done) | (simp; omega))))))).trans (f8.below0 (B := w10.heap.size) (by simp; omega) (fun i hi => by have := HGe.out _ hi; omega))
                  go_wp2_with fail
                  go_roundw
                  case rel => exact ⟨j + 1, l' ++ [⟨k, xv, xa, xg, xt⟩], by omega, by go_num, by rw [List.append_assoc]; exact Hsn.out, by simp; omega, h8, hb8⟩
                  case measure => simp [intOf]; omega
            · rw [if_neg hkk] at hRk
              have Hsn := hid hRk
              clear hRk
              go_wp2_with (first | (with_reducible refine at_loadE rfl ?_; refine ldE rfl _ rfl g (off + j * 5) rfl _ _ _ _ _ Hrg.out ?_) | (with_reducible refine at_loadE rfl ?_; refine ldE rfl _ rfl wr.heap.size 0 rfl _ _ _ _ _ (Blk.range5 (Blk.new _ _ _)) ?_) | (with_reducible refine at_buildE rfl ?_; refine bdE rfl _ rfl _ _ _ _ _ rfl ?_) | (at_builtin; refine appE _ w10.heap.size _ l' xk xv xa xg xt (HO.out.belowS (by (repeat (first | with_reducible exact Below.refl _ _ | with_reducible assumption | (with_reducible refine Below.drew ?_) | (with_reducible refine Below.manyDrew ?_ _) | ((with_reducible refine Below.alloc ?_ ?_ _); rotate_left; (focus (first | omega | (dsimp only; omega) | (simp; done) | (simp; omega)))) | ((with_reducible refine Below.setCell ?_ ?_ _); rotate_left; (focus (first | omega | (dsimp only; omega) | (simp; done) | (simp; omega)))) | ((with_reducible refine Below.step ?_ (by assumption) ?_); rotate_left; (focus (first | omega | (dsimp only; omega) | (simp; done) | (simp; omega)))))))) rfl _ _ rfl rfl rfl ?_ ?_ ?_ ?_))
              any_goals (first | (with_reducible rfl) | omega | exact World.size_alloc _ _ | (show _ ≤ _; rw [World.size_alloc]; omega))
              intro v8 w8 h8 f8 o8
              have hb8 := (show Below w10.heap.size w10 _ by (repeat (first | with_reducible exact Below.refl _ _ | with_reducible assumption | (with_reducible refine Below.drew ?_) | (with_reducible refine Below.manyDrew ?_ _) | ((with_reducible refine Below.alloc ?_ ?_ _); rotate_left; (focus (first | omega | (dsimp only; omega) | (simp; done) | (simp; omega)))) | ((with_reducible refine Below.setCell ?_ ?_ _); rotate_left; (focus (first | omega | (dsimp only; omega) | (simp; done) | (simp; omega)))) | ((with_reducible refine Below.step ?_ (by assumption) ?_); rotate_left; (focus (first | omega | (dsimp only; omega) | (simp; done) | (simp; omega))))))).trans (f8.below0 (B := w10.heap.size) (by simp; omega) (fun i hi => by have := HGe.out _ hi; omega))
              go_wp2_with fail
              go_roundw
              case rel => exact ⟨j + 1, l' ++ [⟨xk, xv, xa, xg, xt⟩], by omega, by go_num, by rw [List.append_assoc]; exact Hsn.out, by simp; omega, h8, hb8⟩
              case measure => simp [intOf]; omega
          · obtain rfl : j = s.xs.length := by omega
            rw [List.drop_length, leftT, List.append_nil] at hRk
            have hl' : l' = (touchR s.xs k v q).1 := by rw [hRk, HL.out]
            have HRv := hid (RowV.of_ow HO.out (by rw [hl']; exact Hgd.out))
            have Hl' := hid hl'
            clear hRk hl'
            go_wp2_with fail
            go_meet
            exact ⟨by rw [← Hl'.out]; exact HRv.out, hbr⟩
      · have hcb : ((touchR s.xs k v q).2 == 0) = false := by rw [beq_eq_false_iff_ne]; exact h0
        have HR := hid (touchR_nil h0)
        clear h0
        by_cases hm0 : 0 < s.xs.length
        all_goals
          go_wp2_with fail
          go_loopw [24, 25] (fun v i wr => v = .slice none 0 0 ∧ i = .int .i64 0 ∧ wr = w10) (fun _ _ _ => 0)
          case atStart => exact ⟨rfl, rfl, rfl⟩
          case round =>
            obtain ⟨rfl, rfl, rfl⟩ := hrel
            go_wp2_with fail
            go_meet
            rw [HR.out]
            exact ⟨RowV.nil _, Below.refl _ _⟩
  case rest =>
  obtain ⟨hRv, hb11⟩ := hcut
  obtain ⟨w11, rfl⟩ : ∃ w11 : World, w11 = wc := ⟨_, rfl⟩
  obtain ⟨lf, rfl, hlx, hlA⟩ := hRv
  have Hlx := hid hlx
  have HlA := hid hlA
  have Hb11 := hid (Below.step Hb10.out hb11 hz10)
  have hz11 := Hb11.out.size
  have HTo := hid (touch_any s k v q w11 (HS.out _ Hb11.out))
  have Hgd := hid (touchR_good (k := k) (v := v) Hq.out Hsg.out)
  clear hlx hlA hb11 HRG HH10 HH9 HH8' HH8 HH7 HB8' HB8 HB7
  generalize touchR s.xs k v q = TR at *
  obtain ⟨L2, te⟩ := TR
  go_wp2_with fail
  refine HTo.out.mono ?_
  rintro e w12 ⟨v12, rfl, hOw, hb12⟩
  obtain ⟨u, rfl, hux, huA⟩ := RowV.of_ow hOw Hgd.out
  have Hb12 := hid (Below.step Hb11.out hb12 hz11)
  have hz12 := Hb12.out.size
  have HuA := hid huA
  have Hux := hid hux
  have HlA12 := hid (HlA.out.stays hb12)
  clear hOw hb12 huA hux
  go_wp2_with fail
  refine (error_any _ _ w12 (HG.out _ Hb12.out)).mono ?_
  rw [beq_self_eq_true]
  rintro e w13 ⟨rfl, hb13⟩
  have Hb13 := hid (Below.step Hb12.out hb13 hz12)
  have hz13 := Hb13.out.size
  have HE2 := hid (ecache_any u lf w13 (HuA.out.stays hb13) (HlA12.out.stays hb13))
  rw [Hux.out, Hlx.out, eqsE_refl] at HE2
  clear hb13
  rw [Hux.out, Hlx.out]
  go_wp2_with fail
  refine HE2.out.mono ?_
  rintro e w14 ⟨rfl, hb14⟩
  have Hb14 := hid (Below.step Hb13.out hb14 hz13)
  clear hb14
  go_wp2_with fail
  go_ret
  exact ⟨rfl, Hb14.out⟩

theorem trodAll_five {H : Type} {enc : TypeId × Value → H} {P : Program} {w : World} {base : Nat} {sp : Nat → Bool} {held : Bool} {t t' t'' t3 t4 : TypeId} {args : Array Value} {ds : List (DataW H)} {ps : List MemPlace} (h : DataW.TrodAll enc P w base sp held [t, t', t'', t3, t4] args.toList ds ps) :
    ∃ v v' v'' v3 v4 d d' d'' d3 d4 p p' p'' p3 p4, args = #[v, v', v'', v3, v4] ∧ ds = [d, d', d'', d3, d4] ∧ ps = p ++ (p' ++ (p'' ++ (p3 ++ (p4 ++ [])))) ∧ DataW.Trod enc P w base sp held t v d p ∧ DataW.Trod enc P w base sp held t' v' d' p' ∧ DataW.Trod enc P w base sp held t'' v'' d'' p'' ∧ DataW.Trod enc P w base sp held t3 v3 d3 p3 ∧ DataW.Trod enc P w base sp held t4 v4 d4 p4 := by
  obtain ⟨v, vs, d, ds', p, q, e1, rfl, rfl, h1, h⟩ := trodAll_cons h
  obtain ⟨v', vs', d', ds'', p', q', rfl, rfl, rfl, h2, h⟩ := trodAll_cons h
  obtain ⟨v'', vs'', d'', ds3, p'', q'', rfl, rfl, rfl, h3, h⟩ := trodAll_cons h
  obtain ⟨v3, vs3, d3, ds4, p3, q3, rfl, rfl, rfl, h4, h⟩ := trodAll_cons h
  obtain ⟨v4, vs4, d4, ds5, p4, q4, rfl, rfl, rfl, h5, h⟩ := trodAll_cons h
  obtain ⟨rfl, rfl, rfl⟩ := trodAll_nil h
  refine ⟨v, v', v'', v3, v4, d, d', d'', d3, d4, p, p', p'', p3, p4, ?_, rfl, rfl, h1, h2, h3, h4, h5⟩
  exact Array.toList_inj.1 (by simpa using e1)

set_option maxRecDepth 100000 in
theorem freshTells_walk : LawWalk Tryd.prog 3 Tryd.f3 Gl := by
  intro W base args H enc ds p hval hA hgl
  rw [Tryd.params3] at hA hval
  obtain ⟨v0, v1, v2, v3, v4, d0, d1, d2, d3, d4, p0, p1, p2, p3, p4, rfl, rfl, rfl, h0, h1, h2, h3, h4⟩ := trodAll_five hA
  obtain ⟨s, rfl, hs⟩ := arg_slice Tryd.underlying22 codecEntry (pos_of_eq Tryd.cellsEntry (by decide)) (hval 0 22 v0 rfl rfl) h0
  obtain ⟨k, rfl, _⟩ := arg_int Tryd.underlying3 (hval 1 3 v1 rfl rfl) h1
  obtain ⟨f, rfl, _⟩ := arg_int Tryd.underlying3 (hval 2 3 v2 rfl rfl) h2
  obtain ⟨v, rfl, _⟩ := arg_int Tryd.underlying3 (hval 3 3 v3 rfl rfl) h3
  obtain ⟨q, rfl, hq⟩ := arg_int Tryd.underlying3 (hval 4 3 v4 rfl rfl) h4
  exact freshTells_any s k f v q W hq (entriesAt_of hs).es hgl

set_option maxRecDepth 100000 in
theorem freshTells_lifted (os : Os) (started : os.Started) (H : Type) (enc : TypeId × Value → H) :
    ReturnsInHanded {} Tryd.checked os 3 .any (fun w args => (Rows.freshTellsSpec.pre enc Tryd.checked.prog Tryd.f3 [] false w args ∧ laidMetH Tryd.prog theLaid w) ∧ sizedMet enc Tryd.checked.prog Tryd.f3 (OpenSpec.ofChange Rows.freshTellsSpec) false w args) (Rows.freshTellsSpec.post enc Tryd.checked.prog Tryd.f3 false true false false) :=
  laid_lifted (C := Tryd.checked) theLaid (fun _ h => handle_of_laid h) [] Tryd.own started (by kernel_rfl) Tryd.func3 Tryd.laidOut (by kernel_rfl) rfl Tryd.underlying4 rfl (fun ds h => by match ds, h with | [_, _, _, _, _], _ => rfl)
    (ChangeSpec.witness_at (enc := enc) (C := Tryd.checked) (os := os) (X := fun w _ => laidMetH Tryd.prog theLaid w) false (laidWorld os) #[.slice none 0 0, .int .i64 0, .int .i64 0, .int .i64 0, .int .i64 0] 8 rfl (by kernel_rfl) (by kernel_rfl) (by kernel_rfl) (by kernel_rfl) (by kernel_rfl) (laidWorld_met os _)) freshTells_walk

theorem freshTells_row : Rows.FreshTellsSaid :=
  OpenClaim.holds_of_wide 3 Tryd.f3 rfl rfl rfl rfl rfl rfl rfl ⟨rfl, rfl, rfl, rfl, rfl⟩ rfl rfl rfl rfl rfl (by kernel_rfl) Tryd.func3 (by kernel_rfl)
    (of_decide_eq_true (by kernel_rfl)) (by unfold Func.isWrapper; rw [if_neg (of_decide_eq_false (by kernel_rfl))]; exact ⟨rfl, rfl⟩)
    (fun os started H enc _ => freshTells_lifted os started H enc)

theorem freshTells_holds : Rows.FreshTellsCardSaid :=
  Claim7.holds_tied_plain_at .later [] [.handle] true _ true
    freshTells_row (fun _ h => by cases h) (by kernel_rfl) (fun _ h => by cases h) freshTells_row_tie rfl ⟨rfl, rfl⟩ (by kernel_rfl) rfl
    (fun f fn hf hfn => by
      obtain rfl : f = 3 := Option.some.inj ((show Tryd.prog.funcNamed "beaconmere/merelaw1.FreshTells" = some 3 by kernel_rfl).symm.trans hf) |>.symm
      obtain rfl : fn = Tryd.f3 := (Option.some.inj (Tryd.func3.symm.trans hfn)).symm
      refine ⟨by kernel_rfl, fun j t ht => ?_⟩
      have hall : Tryd.f3.params.toList.all (fun t => !Tryd.prog.wantsStandIn t) = true := by kernel_rfl
      have hm : t ∈ Tryd.f3.params.toList := by
        obtain ⟨hj, hje⟩ := Array.getElem?_eq_some_iff.1 ht
        rw [← hje]
        exact Array.mem_toList_iff.2 (Array.getElem_mem hj)
      have := List.all_eq_true.1 hall t hm
      exact (show Tryd.prog.wantsStandIn t = false by simpa using this))
    (by kernel_rfl)

end Go.Proofs.YthjbebngedajiaaDoor
