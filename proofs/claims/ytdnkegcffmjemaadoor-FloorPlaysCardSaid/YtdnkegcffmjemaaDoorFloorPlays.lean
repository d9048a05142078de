/-
  PROVED HERE: merelaw1.FloorPlays returns true: any floors that are raised do as the document says. CONDITIONS: errors.errorType as the program's text lays it (tied by the card).
-/
import Derived.Test.YtdnkegcffmjemaaDoorFloorLaw
import Derived.Test.YtdnkegcffmjemaaDoorCodecs
import Derived.Test.YtdnkegcffmjemaaDoorKit
import Derived.Test.YtdnkegcffmjemaaDoorREntry
import Derived.Test.YtdnkegcffmjemaaDoorDoor
import Derived.Deep.DeepCutAuto
import Derived.Deep.CutBlock
namespace Go.Proofs.YtdnkegcffmjemaaDoor
open Go.RowKit
open Go.ChangeShapes Go.WideShapes Go.ChangeAt

theorem set_same (l : List Int) (m : Nat) (h : m < l.length) : l.set m (l.getD m 0) = l := by
  rw [List.getD, List.getElem?_eq_getElem h, Option.getD_some, List.set_getElem_self]

set_option maxHeartbeats 16000000 in
set_option maxRecDepth 100000 in
theorem floorPlays_any (st : SlV (SlV Int)) (l : SlV E) (w : World) (hst : IntssAt w st) (hes : EntriesAt w l) (hgl : Gl w) :
    Calls Tryd.prog 3 #[.slice st.A st.xs.length st.c, .slice l.A l.xs.length l.c] w fun e w' => e = .returned (.bool true) ∧ Below w.heap.size w w' := by
  have hg0 := hgl.lt
  go_enter Tryd.func3, Tryd.ntmps3
  go_wp2_with fail
  refine (new_floor _).mono ?_
  rintro e w5 ⟨rfl, hB5, hb5⟩
  have hz5 := hb5.size
  have hl5 := hB5.lt
  have hW : Blk (w5.alloc (.cells (ints (List.replicate 8 0)) 26)) w5.heap.size 26 (ints (List.replicate 8 0)) := Blk.new _ _ _
  have hB6 := hB5.alloc (.cells (ints (List.replicate 8 0)) 26)
  have hbel6 : Below w.heap.size w (w5.alloc (.cells (ints (List.replicate 8 0)) 26)) := hb5.alloc (by omega) _
  clear hB5 hb5
  have hlen := hst.len
  have hlenl := hes.len
  unfold maxLen at hlen hlenl
  go_wp2_with fail
  go_loopw [7] (fun i wr => ∃ (n : Nat) (fs : List Int), n ≤ 60 ∧ i = .int .i64 n ∧ fs.length = 8 ∧ Blk wr w.heap.size 67 (ints fs) ∧ Blk wr w5.heap.size 26 (ints fs) ∧ Below w.heap.size w wr)
    (fun i _ => 60 - (intOf i).toNat)
  case atStart => exact ⟨0, List.replicate 8 0, by omega, rfl, by simp, hB6, hW, hbel6⟩
  case round =>
    obtain ⟨n, fs, hn, rfl, hl8, hBr, hWr, hbr⟩ := hrel
    clear hB6 hW hbel6
    by_cases hn1 : n < st.xs.length
    · by_cases hn2 : n < 60
      · obtain ⟨b, off, hA, hb, hcells⟩ := hst.row (by omega)
        have hcell := hcells n hn1
        have hin := hst.each n hn1
        rw [← hbr.cell (p := ⟨b, off + n, none⟩) hb] at hcell
        have HA := hid hA
        rw [hA]
        generalize hrw : st.xs[n] = rw_ at *
        clear hcells hA
        obtain ⟨wo, rfl⟩ : ∃ wo : World, wo = wr := ⟨_, rfl⟩
        have hzr := hbr.size
        have hFlt := hBr.lt
        have hWlt := hWr.lt
        have hVlt : w.heap.size < wo.heap.size := hFlt
        go_upto_block 2 with fail
        go_cut [] (fun wx => ∃ vs : List Int, vs.length = 3 ∧ Blk wx wo.heap.size 27 (ints vs) ∧ Fr (fun x => x = wo.heap.size) (wo.alloc (.cells (ints [0, 0, 0]) 27)) wx)
        case first =>
          have hV0 : Blk (wo.alloc (.cells (ints [0, 0, 0]) 27)) wo.heap.size 27 (ints [0, 0, 0]) := Blk.new _ _ _
          go_wp2_with fail
          go_loopw [9] (fun j w2 => ∃ (m : Nat) (vs : List Int), m ≤ 3 ∧ m ≤ rw_.xs.length ∧ j = .int .i64 m ∧ vs.length = 3 ∧ Blk w2 wo.heap.size 27 (ints vs) ∧ Fr (fun x => x = wo.heap.size) (wo.alloc (.cells (ints [0, 0, 0]) 27)) w2)
            (fun j _ => 3 - (intOf j).toNat)
          case atStart => exact ⟨0, [0, 0, 0], by omega, by omega, rfl, rfl, hV0, Fr.refl _ _⟩
          case round =>
            obtain ⟨m, vs, hm3, hml, rfl, hvl, hVb, hVf⟩ := hrel
            have hcell2 := (hVf.cell (p := ⟨b, off + n, none⟩) (by simp; omega) (by simp; omega)).trans ((World.cell?_alloc_lt wo _ ⟨b, off + n, none⟩ (by simp; omega)).trans hcell)
            by_cases hm1 : m < rw_.xs.length
            · by_cases hm2 : m < 3
              · obtain ⟨b2, off2, hA2, hb2, hcells2⟩ := hin.row (by omega)
                have hx := hcells2 m hm1
                have hx2 := (hVf.cell (p := ⟨b2, off2 + m, none⟩) (by simp; omega) (by simp; omega)).trans ((World.cell?_alloc_lt wo _ ⟨b2, off2 + m, none⟩ (by simp; omega)).trans ((hbr.cell (p := ⟨b2, off2 + m, none⟩) hb2).trans hx))
                rw [hA2] at hcell2
                generalize rw_.xs.getD m 0 = x at *
                have hv : _ = some (Value.int .i64 (vs.getD m 0)) := (hVb.cell m).trans (ints_get vs m (by omega))
                have hvf := hVb.frozen m
                have hVb' := hVb.put m (.int .i64 x)
                rw [ints_set] at hVb'
                have hVf' := Fr.setCell (S := fun x => x = wo.heap.size) hVf (p := ⟨wo.heap.size, m, none⟩) (.inl rfl) (.int .i64 x)
                have HV := hid (And.intro hVb' hVf')
                clear hcells2 hA2 hx hVb' hVf'
                go_wp2_with fail
                go_roundw
                case rel => exact ⟨m + 1, _, by omega, by omega, by go_num, by simpa using hvl, HV.out.1, HV.out.2⟩
                case measure => simp [intOf]; omega
              · go_wp2_with fail
                go_meet
                exact ⟨vs, hvl, hVb, hVf⟩
            · go_wp2_with fail
              go_meet
              exact ⟨vs, hvl, hVb, hVf⟩
        case rest =>
          obtain ⟨vs, hvl, hVb, hVf⟩ := hcut
          obtain ⟨x0, x1, x2, rfl⟩ : ∃ x0 x1 x2, vs = [x0, x1, x2] := by
            match vs, hvl with
            | [x0, x1, x2], _ => exact ⟨x0, x1, x2, rfl⟩
          have hBc := (hBr.alloc (.cells (ints [0, 0, 0]) 27)).fr hVf (by omega)
          have hWc := (hWr.alloc (.cells (ints [0, 0, 0]) 27)).fr hVf (by omega)
          have hbc : Below w.heap.size w wc := Below.stepFr (hbr.alloc (by omega) _) hVf (by simp; omega) (by omega)
          have cv0 : wc.cell? ⟨wo.heap.size, 0, none⟩ = some (.int .i64 x0) := hVb.cell 0
          have cv1 : wc.cell? ⟨wo.heap.size, 1, none⟩ = some (.int .i64 x1) := hVb.cell 1
          have cv2 : wc.cell? ⟨wo.heap.size, 2, none⟩ = some (.int .i64 x2) := hVb.cell 2
          have hVc := hVb.lt
          obtain ⟨wd, rfl⟩ : ∃ wd : World, wd = wc := ⟨_, rfl⟩
          have HVb := hid hVb
          have HBc := hid hBc
          have HWc := hid hWc
          have Hbc := hid hbc
          have hFd := hBc.lt
          have hWd := hWc.lt
          have hgd : Gl wd := hgl.below hbc hg0
          clear hVf hcell hin hBr hWr hbr hVb hBc hWc hbc
          go_upto_region 12 with (go_at_call 8; refine (rkey_any _ _).mono ?_; rintro e w' ⟨rfl, rfl⟩)
          obtain ⟨p10, hp10⟩ : ∃ p, keyB x1 = p := ⟨_, rfl⟩
          have Hp10 := hid hp10
          rw [hp10]
          clear hp10
          go_cut [11] (fun q wx => q = .bool (seqB x2) ∧ wx = wd)
          case first =>
            go_wp2_with fail
            all_goals
              go_meet
              refine ⟨?_, rfl⟩
              congr 1
              first | (simp [seqB, *]; done) | (rw [Bool.eq_iff_iff]; simp [seqB]; omega) | (rw [Bool.eq_iff_iff]; simp [seqB, *]; done)
          case rest =>
          obtain ⟨hq, rfl⟩ := hcut
          obtain ⟨q11, hq11⟩ : ∃ q, seqB x2 = q := ⟨_, rfl⟩
          rw [hq11] at hq
          subst hq
          have Hq11 := hid hq11
          clear hq11
          go_upto_if 74 with fail
          go_cut [12] (fun t wx => t = .bool true ∧ ∃ fs' : List Int, fs'.length = 8 ∧ Blk wx w.heap.size 67 (ints fs') ∧ Blk wx w5.heap.size 26 (ints fs') ∧ Blk wx wo.heap.size 27 (ints [x0, x1, x2]) ∧ Below w.heap.size w wx)
          case first =>
            as_aux_lemma =>
            by_cases hx0 : x0 = 0
            · subst hx0
              cases q11 with
              | false =>
                have HA := hid (all_any w.heap.size fs hl8 x2 wc HBc.out)
                rw [Hq11.out, if_neg (by decide), if_neg (by decide)] at HA
                go_wp2_with fail
                refine HA.out.mono ?_
                rintro e w6 ⟨rfl, hB6, hF6⟩
                have hz6 := hF6.size
                have hb6 : Below w.heap.size w w6 := Hbc.out.trans (hF6.below0 (by omega) (fun i hi => by rw [hi]; exact Nat.le_refl _))
                have hg6 := hgl.below hb6 hg0
                have HW6 := hid (HWc.out.fr hF6 (by omega))
                have HV6 := hid (HVb.out.fr hF6 (by omega))
                have HB6 := hid hB6
                have Hb6 := hid hb6
                clear hB6 hF6 hb6
                go_wp2_with fail
                refine (error_any 1 1 _ hg6).mono ?_
                rintro e w7 ⟨rfl, hb7⟩
                go_wp2_with fail
                go_meet
                exact ⟨rfl, fs, hl8, HB6.out.belowS hb7, HW6.out.belowS hb7, HV6.out.belowS hb7, Below.step Hb6.out hb7 Hb6.out.size⟩
              | true =>
                have hsq := seqB_true.1 Hq11.out
                have hsq0 := hsq.1
                have hsq1 := hsq.2
                go_wp2_with fail
                go_loopw [14] (fun i wl => ∃ m : Nat, m ≤ 8 ∧ i = .int .i64 m ∧ Blk wl w5.heap.size 26 (ints (allL fs x2 m)) ∧ Fr (fun i => i = w5.heap.size) wc wl) (fun i _ => 8 - (intOf i).toNat)
                case atStart => exact ⟨0, by omega, rfl, HWc.out, Fr.refl _ _⟩
                case round =>
                  obtain ⟨m, hm, rfl, hWl, hFl⟩ := hrel
                  have hzl := hFl.size
                  have ca : wr.cell? ⟨wo.heap.size, 2, none⟩ = some (.int .i64 x2) := (hFl.cell (p := ⟨wo.heap.size, 2, none⟩) hVc (by simp only; omega)).trans cv2
                  by_cases hm8 : m < 8
                  · have hal := allL_length fs x2 m
                    have hcur : wr.cell? ⟨w5.heap.size, m, none⟩ = some (.int .i64 ((allL fs x2 m).getD m 0)) := (hWl.cell m).trans (ints_get _ _ (by omega))
                    have hcf := hWl.frozen m
                    have hok : okB (m : Int) x2 = true := by rw [okB, keyB_true.2 (show 0 ≤ (m : Int) ∧ (m : Int) < 8 by omega), Hq11.out]; rfl
                    have HS : Hid (allL fs x2 (m + 1) = (allL fs x2 m).set m (max ((allL fs x2 m).getD m 0) x2)) := hid (by rw [allL, raiseL, if_pos hok, Int.toNat_natCast])
                    have hml : m < (allL fs x2 m).length := by omega
                    have HM := hid hml
                    generalize allL fs x2 m = L at *
                    have HG : Hid (L.set m (L.getD m 0) = L) := hid (set_same L m HM.out)
                    have hWp := hWl.put m (.int .i64 x2)
                    rw [ints_set] at hWp
                    have HWp := hid hWp
                    have HWl := hid hWl
                    generalize L.getD m 0 = cur at *
                    clear hok hal hml hWp hWl
                    have hmi : (m : Int) < 8 := by omega
                    by_cases hgt : cur < x2
                    · have hmx : max cur x2 = x2 := by omega
                      have HS2 : Hid (allL fs x2 (m + 1) = L.set m x2) := hid (by rw [HS.out, hmx])
                      clear hmx
                      go_wp2_with fail
                      go_quiet (fail)
                      go_wp2_with fail
                      go_roundw
                      case rel => exact ⟨m + 1, by omega, by go_num, by rw [HS2.out]; exact HWp.out, (hFl.drewN _).setCell (p := ⟨w5.heap.size, m, none⟩) (.inl rfl) _⟩
                      case measure => simp [intOf]; omega
                    · have hmx : max cur x2 = cur := by omega
                      have HS2 : Hid (allL fs x2 (m + 1) = L) := hid (by rw [HS.out, hmx, HG.out])
                      clear hmx
                      go_wp2_with fail
                      go_quiet (fail)
                      go_wp2_with fail
                      go_roundw
                      case rel => first | exact ⟨m + 1, by omega, by go_num, by rw [HS2.out]; exact HWl.out.drewN _, hFl.drewN _⟩ | ((repeat apply Exists.intro); exact ⟨⟨m + 1, by omega, by go_num, by rw [HS2.out]; exact HWl.out.drewN _, hFl.drewN _⟩, rfl⟩)
                      case measure => simp [intOf]; omega
                  · obtain rfl : m = 8 := by omega
                    have hBl := HBc.out.fr hFl (by omega)
                    have HA := hid (all_any w.heap.size fs hl8 x2 wr hBl)
                    rw [Hq11.out, if_pos rfl, if_pos rfl] at HA
                    have hbl : Below w.heap.size w wr := Hbc.out.trans (hFl.below0 (by omega) (fun i hi => by rw [hi]; omega))
                    have HV := hid (HVb.out.fr hFl (by omega))
                    have HWl := hid hWl
                    have Hbl := hid hbl
                    clear hWl hFl hBl hbl
                    go_wp2_with fail
                    refine HA.out.mono ?_
                    rintro e w6 ⟨rfl, hB6, hF6⟩
                    have hz6 := hF6.size
                    have hb6 : Below w.heap.size w w6 := Hbl.out.trans (hF6.below0 (by omega) (fun i hi => by rw [hi]; exact Nat.le_refl _))
                    have hg6 := hgl.below hb6 hg0
                    have HW6 := hid (HWl.out.fr hF6 (by omega))
                    have HV6 := hid (HV.out.fr hF6 (by omega))
                    have HB6 := hid hB6
                    have Hb6 := hid hb6
                    clear hB6 hF6 hb6
                    go_wp2_with fail
                    refine (error_any 0 0 _ hg6).mono ?_
                    rintro e w7 ⟨rfl, hb7⟩
                    go_wp2_with fail
                    go_meet
                    exact ⟨rfl, _, by rw [allL_length]; exact hl8, HB6.out.belowS hb7, HW6.out.belowS hb7, HV6.out.belowS hb7, Below.step Hb6.out hb7 Hb6.out.size⟩
            · have hno : (p10 && q11) = false ∨ (p10 = true ∧ q11 = true) := by cases p10 <;> cases q11 <;> first | exact .inl rfl | exact .inr ⟨rfl, rfl⟩
              rcases hno with hno | ⟨rfl, rfl⟩
              · have hok : okB x1 x2 = false := by rw [okB, Hp10.out, Hq11.out, hno]
                have HR := hid (raise_any w.heap.size fs hl8 x1 x2 wc HBc.out)
                rw [raiseB, raiseL, raiseE, hok, Bool.false_and, if_neg (by decide), if_neg (by decide)] at HR
                have hcase : p10 = false ∨ (p10 = true ∧ q11 = false) := by cases p10 <;> cases q11 <;> first | exact .inl rfl | exact .inr ⟨rfl, rfl⟩ | exact absurd hno (by decide)
                clear hok hno
                rcases hcase with rfl | ⟨rfl, rfl⟩
                all_goals
                  go_wp2_with fail
                  refine HR.out.mono ?_
                  rintro e w6 ⟨rfl, hB6, hF6⟩
                  have hz6 := hF6.size
                  have hb6 : Below w.heap.size w w6 := Hbc.out.trans (hF6.below0 (by omega) (fun i hi => by rw [hi]; exact Nat.le_refl _))
                  have hg6 := hgl.below hb6 hg0
                  have HW6 := hid (HWc.out.fr hF6 (by omega))
                  have HV6 := hid (HVb.out.fr hF6 (by omega))
                  have HB6 := hid hB6
                  have Hb6 := hid hb6
                  clear hB6 hF6 hb6
                  go_wp2_with fail
                  refine (error_any 1 1 _ hg6).mono ?_
                  rintro e w7 ⟨rfl, hb7⟩
                  go_wp2_with fail
                  go_meet
                  exact ⟨rfl, fs, hl8, HB6.out.belowS hb7, HW6.out.belowS hb7, HV6.out.belowS hb7, Below.step Hb6.out hb7 Hb6.out.size⟩
              · have hok : okB x1 x2 = true := by rw [okB, Hp10.out, Hq11.out]; rfl
                obtain ⟨hk0, hk8⟩ := keyB_true.1 Hp10.out
                obtain ⟨j, rfl⟩ := Int.eq_ofNat_of_zero_le hk0
                have hj8 : j < 8 := by omega
                have hcur : wc.cell? ⟨w5.heap.size, j, none⟩ = some (.int .i64 (fs.getD j 0)) := (HWc.out.cell j).trans (ints_get _ _ (by omega))
                have hcf := HWc.out.frozen j
                have HG : Hid (fs.set j (fs.getD j 0) = fs) := hid (set_same fs j (by omega))
                have hWp := HWc.out.put j (.int .i64 x2)
                rw [ints_set] at hWp
                have HWp := hid hWp
                have HRL : Hid (raiseL fs (j : Int) x2 = fs.set j (max (fs.getD j 0) x2)) := hid (by rw [raiseL, if_pos hok, Int.toNat_natCast])
                have HRB : Hid (raiseB fs (j : Int) x2 = (max (fs.getD j 0) x2 != fs.getD j 0)) := hid (by rw [raiseB, hok, Bool.true_and, Int.toNat_natCast])
                have HRE : Hid (errV (raiseE (j : Int) x2) = .nilIface) := hid (by rw [raiseE, if_pos hok]; rfl)
                generalize fs.getD j 0 = cur at *
                clear hok hWp
                by_cases hgt : cur < x2
                · have hmx : max cur x2 = x2 := by omega
                  have hne : (x2 != cur) = true := by rw [bne_iff_ne]; omega
                  rw [hmx] at HRL HRB
                  rw [hne] at HRB
                  clear hmx hne
                  go_wp2_with fail
                  go_quiet (fail)
                  go_wp2_with fail
                  have hFq : ∀ q, Fr (fun i => i = w5.heap.size) wc ((wc.drewN q).setCell ⟨w5.heap.size, j, none⟩ (.int .i64 x2)) := fun q => Fr.setCell (S := fun i => i = w5.heap.size) ((Fr.refl _ _).drewN q) (p := ⟨w5.heap.size, j, none⟩) (.inl rfl) _
                  refine (raise_any w.heap.size fs hl8 j x2 _ (HBc.out.fr (hFq _) (by omega))).mono ?_
                  rw [HRL.out, HRB.out, HRE.out]
                  rintro e w6 ⟨rfl, hB6, hF6⟩
                  have hz6 := hF6.size
                  have hzq := (hFq nq).size
                  have hbq : Below w.heap.size w ((wc.drewN nq).setCell ⟨w5.heap.size, j, none⟩ (.int .i64 x2)) := Hbc.out.trans ((hFq nq).below0 (by omega) (fun i hi => by rw [hi]; omega))
                  have hb6 : Below w.heap.size w w6 := hbq.trans (hF6.below0 (by omega) (fun i hi => by rw [hi]; exact Nat.le_refl _))
                  have hg6 := hgl.below hb6 hg0
                  have HW6 : Hid (Blk w6 w5.heap.size 26 (ints (fs.set j x2))) := hid (Blk.fr (w := (wc.drewN nq).setCell ⟨w5.heap.size, j, none⟩ (.int .i64 x2)) (by exact HWp.out) hF6 (by omega))
                  have HV6 := hid ((HVb.out.fr (hFq nq) (by omega)).fr hF6 (by omega))
                  have HB6 := hid hB6
                  have Hb6 := hid hb6
                  clear hB6 hF6 hb6 hFq hbq
                  go_wp2_with fail
                  refine (error_any 0 0 _ hg6).mono ?_
                  rintro e w7 ⟨rfl, hb7⟩
                  go_wp2_with fail
                  go_meet
                  exact ⟨rfl, _, by rw [List.length_set]; exact hl8, HB6.out.belowS hb7, HW6.out.belowS hb7, HV6.out.belowS hb7, Below.step Hb6.out hb7 Hb6.out.size⟩
                · have hmx : max cur x2 = cur := by omega
                  rw [hmx] at HRL HRB
                  rw [HG.out] at HRL
                  rw [bne_self_eq_false] at HRB
                  clear hmx
                  go_wp2_with fail
                  go_quiet (fail)
                  go_wp2_with fail
                  refine (raise_any w.heap.size fs hl8 j x2 _ (HBc.out.drewN _)).mono ?_
                  rw [HRL.out, HRB.out, HRE.out]
                  rintro e w6 ⟨rfl, hB6, hF6⟩
                  have hz6 := hF6.size
                  have hb6 : Below w.heap.size w w6 := (Below.manyDrew Hbc.out _).trans (hF6.below0 (by simp; omega) (fun i hi => by rw [hi]; exact Nat.le_refl _))
                  have hg6 := hgl.below hb6 hg0
                  have HW6 := hid ((HWc.out.drewN _).fr hF6 (by omega))
                  have HV6 := hid ((HVb.out.drewN _).fr hF6 (by omega))
                  have HB6 := hid hB6
                  have Hb6 := hid hb6
                  clear hB6 hF6 hb6
                  go_wp2_with fail
                  refine (error_any 0 0 _ hg6).mono ?_
                  rintro e w7 ⟨rfl, hb7⟩
                  go_wp2_with fail
                  go_meet
                  exact ⟨rfl, fs, hl8, HB6.out.belowS hb7, HW6.out.belowS hb7, HV6.out.belowS hb7, Below.step Hb6.out hb7 Hb6.out.size⟩
          case rest =>
          obtain ⟨rfl, fs', hl8', hBx, hWx, hVx, hbx⟩ := hcut
          have ce1 : wc.cell? ⟨wo.heap.size, 1, none⟩ = some (.int .i64 x1) := hVx.cell 1
          have hge : Gl wc := hgl.below hbx hg0
          have HBx := hid hBx
          have HWx := hid hWx
          have Hbx := hid hbx
          clear cv0 cv1 cv2 hgd hBx hWx hVx hbx
          obtain ⟨V, hV⟩ : ∃ V, (if keyB x1 = true then fs'.getD x1.toNat 0 else 0) = V := ⟨_, rfl⟩
          obtain ⟨EE, hEE⟩ : ∃ EE, (if keyB x1 = true then (0 : Int) else 1) = EE := ⟨_, rfl⟩
          have HOf := hid (of_any w.heap.size fs' hl8' x1 wc HBx.out)
          rw [hV, hEE] at HOf
          have HV := hid hV
          have HEE := hid hEE
          clear hV hEE
          go_upto_if 129 with fail
          go_cut [19, 20] (fun a b wx => a = .int .i64 EE ∧ b = .int .i64 V ∧ wx = wc)
          case first =>
            cases p10 with
            | false =>
              go_wp2_with fail
              go_meet
              exact ⟨by rw [← HEE.out, Hp10.out]; rfl, by rw [← HV.out, Hp10.out]; rfl, rfl⟩
            | true =>
              obtain ⟨hk0, hk8⟩ := keyB_true.1 Hp10.out
              obtain ⟨j, rfl⟩ := Int.eq_ofNat_of_zero_le hk0
              have hcur : wc.cell? ⟨w5.heap.size, j, none⟩ = some (.int .i64 (fs'.getD j 0)) := (HWx.out.cell j).trans (ints_get _ _ (by omega))
              have HV2 : Hid (fs'.getD j 0 = V) := hid (by rw [← HV.out, Hp10.out, if_pos rfl, Int.toNat_natCast])
              rw [HV2.out] at hcur
              go_wp2_with fail
              go_meet
              exact ⟨by rw [← HEE.out, Hp10.out]; rfl, rfl, rfl⟩
          case rest =>
          obtain ⟨rfl, rfl, rfl⟩ := hcut
          go_wp2_with fail
          refine HOf.out.mono ?_
          rintro e w6 ⟨rfl, rfl⟩
          go_wp2_with fail
          refine (error_any EE EE _ hge).mono ?_
          rintro e w7 ⟨rfl, hb7⟩
          rw [beq_self_eq_true]
          have hcut := hb7
          clear hb7
          have hzf := hcut.size
          have hbf : Below w.heap.size w w7 := Below.step Hbx.out hcut Hbx.out.size
          have hBf := HBx.out.belowS hcut
          have hWf := HWx.out.belowS hcut
          have hgf := hgl.below hbf hg0
          clear hcut ce1 hge
          by_cases hnl : n < l.xs.length
          · as_aux_lemma =>
            obtain ⟨b2, off2, hA2, hb2, hc2⟩ := hes.row (by omega)
            have hgd2 := hes.each _ (List.getElem_mem hnl)
            have k0 := (hbf.cell (p := ⟨b2, off2 + n * 5 + 0, none⟩) hb2).trans (hc2 n hnl 0 (by decide))
            have k1 := (hbf.cell (p := ⟨b2, off2 + n * 5 + 1, none⟩) hb2).trans (hc2 n hnl 1 (by decide))
            have k2 := (hbf.cell (p := ⟨b2, off2 + n * 5 + 2, none⟩) hb2).trans (hc2 n hnl 2 (by decide))
            have k3 := (hbf.cell (p := ⟨b2, off2 + n * 5 + 3, none⟩) hb2).trans (hc2 n hnl 3 (by decide))
            have k4 := (hbf.cell (p := ⟨b2, off2 + n * 5 + 4, none⟩) hb2).trans (hc2 n hnl 4 (by decide))
            generalize l.xs[n] = y at *
            obtain ⟨y0, y1, y2, y3, y4⟩ := y
            have ht : y4.size ≤ maxLen := hgd2.2.2.2
            simp only [E.cells, Nat.add_zero, List.getElem?_cons_zero, List.getElem?_cons_succ] at k0 k1 k2 k3 k4
            have hb27 : b2 < w7.heap.size := Nat.lt_of_lt_of_le hb2 hbf.size
            have HBf := hid hBf
            have HWf := hid hWf
            have Hbf := hid hbf
            have hWfl := hWf.lt
            have HA2 := hid hA2
            rw [hA2]
            clear hA2 hc2 hgd2 hBf hWf hbf
            by_cases hc : chk ⟨y0, y1, y2, y3, y4⟩ = 0
            · have hkb := (chk_zero.1 hc).1
              simp only at hkb
              obtain ⟨hk0, hk8⟩ := keyB_true.1 hkb
              obtain ⟨j, rfl⟩ := Int.eq_ofNat_of_zero_le hk0
              have Hc := hid hc
              have hj8 : j < 8 := by omega
              have hcur : w7.cell? ⟨w5.heap.size, j, none⟩ = some (.int .i64 (fs'.getD j 0)) := (HWf.out.cell j).trans (ints_get _ _ (by omega))
              have HM := hid (fun W (hW : Below w7.heap.size w7 W) => may_any w.heap.size fs' hl8' j y1 y2 y3 y4 ht W (HBf.out.belowS hW))
              rw [Hc.out, Int.toNat_natCast, if_pos rfl, errV_zero] at HM
              generalize fs'.getD j 0 = cur at *
              obtain ⟨may, hmay⟩ : ∃ q, decide (cur ≤ y2) = q := ⟨_, rfl⟩
              rw [hmay] at HM
              have Hmay := hid hmay
              clear hc hkb hmay
              have hle : (cur ≤ y2 ∧ may = true) ∨ (¬ cur ≤ y2 ∧ may = false) := by
                by_cases h : cur ≤ y2
                · exact .inl ⟨h, by rw [← Hmay.out]; exact decide_eq_true h⟩
                · exact .inr ⟨h, by rw [← Hmay.out]; exact decide_eq_false h⟩
              rcases hle with ⟨hle, rfl⟩ | ⟨hle, rfl⟩
              all_goals
                go_wp2_with fail
                refine (rentry_any j y1 y2 y3 y4 _ ht).mono ?_
                rw [Hc.out]
                rintro e w8 ⟨rfl, hb8⟩; obtain ⟨hc8, hf8⟩ := bcell hb8; have hz8 := hb8.size; (try simp only [World.size_alloc] at hz8); (try simp only [World.size_setCell] at hz8)
                have hl8a : b2 < w8.heap.size := by omega
                have hl8b : w5.heap.size < w8.heap.size := by omega
                go_wp2_with fail
                go_quiet (fail)
                go_wp2_with fail
                refine (HM.out _ (by (repeat (first | with_reducible exact Below.refl _ _ | with_reducible assumption | (with_reducible refine Below.drew ?_) | (with_reducible refine Below.manyDrew ?_ _) | ((with_reducible refine Below.alloc ?_ ?_ _); rotate_left; (focus (first | omega | (dsimp only; omega) | (simp; done) | (simp; omega)))) | ((with_reducible refine Below.setCell ?_ ?_ _); rotate_left; (focus (first | omega | (dsimp only; omega) | (simp; done) | (simp; omega)))) | ((with_reducible refine Below.step ?_ (by assumption) ?_); rotate_left; (focus (first | omega | (dsimp only; omega) | (simp; done) | (simp; omega)))))))).mono ?_
                rintro e w9 ⟨rfl, hb9⟩
                have hb9w : Below w7.heap.size w7 w9 := by (repeat (first | with_reducible exact Below.refl _ _ | with_reducible assumption | (with_reducible refine Below.drew ?_) | (with_reducible refine Below.manyDrew ?_ _) | ((with_reducible refine Below.alloc ?_ ?_ _); rotate_left; (focus (first | omega | (dsimp only; omega) | (simp; done) | (simp; omega)))) | ((with_reducible refine Below.setCell ?_ ?_ _); rotate_left; (focus (first | omega | (dsimp only; omega) | (simp; done) | (simp; omega)))) | ((with_reducible refine Below.step ?_ (by assumption) ?_); rotate_left; (focus (first | omega | (dsimp only; omega) | (simp; done) | (simp; omega))))))
                have hbw9 : Below w.heap.size w w9 := Below.step Hbf.out hb9w Hbf.out.size
                have hg9 := hgl.below hbw9 hg0
                have Hb9w := hid hb9w
                have Hbw9 := hid hbw9
                clear hb9w hbw9
                go_wp2_with fail
                refine (error_any 0 0 _ hg9).mono ?_
                rintro e w10 ⟨rfl, hb10⟩
                go_wp2_with fail
                rw [← HA2.out]
                go_roundw
                case rel => exact ⟨n + 1, fs', by omega, by go_num, hl8', (HBf.out.belowS Hb9w.out).belowS hb10, (HWf.out.belowS Hb9w.out).belowS hb10, Below.step Hbw9.out hb10 Hbw9.out.size⟩
                case measure => simp [intOf]; omega
            · have HM := hid (fun W (hW : Below w7.heap.size w7 W) => may_any w.heap.size fs' hl8' y0 y1 y2 y3 y4 ht W (HBf.out.belowS hW))
              have Hc := hid hc
              obtain ⟨c, hcc⟩ : ∃ c, chk ⟨y0, y1, y2, y3, y4⟩ = c := ⟨_, rfl⟩
              rw [hcc] at HM hc
              rw [if_neg hc] at HM
              have hcn : (c == 0) = false := by rw [beq_eq_false_iff_ne]; exact hc
              have Hcc := hid hcc
              clear hc hcc
              go_wp2_with fail
              refine (rentry_any y0 y1 y2 y3 y4 _ ht).mono ?_
              rw [Hcc.out]
              rintro e w8 ⟨rfl, hb8⟩; obtain ⟨hc8, hf8⟩ := bcell hb8; have hz8 := hb8.size; (try simp only [World.size_alloc] at hz8); (try simp only [World.size_setCell] at hz8)
              have hl8a : b2 < w8.heap.size := by omega
              go_wp2_with fail
              go_quiet (fail)
              go_wp2_with fail
              refine (HM.out _ (by (repeat (first | with_reducible exact Below.refl _ _ | with_reducible assumption | (with_reducible refine Below.drew ?_) | (with_reducible refine Below.manyDrew ?_ _) | ((with_reducible refine Below.alloc ?_ ?_ _); rotate_left; (focus (first | omega | (dsimp only; omega) | (simp; done) | (simp; omega)))) | ((with_reducible refine Below.setCell ?_ ?_ _); rotate_left; (focus (first | omega | (dsimp only; omega) | (simp; done) | (simp; omega)))) | ((with_reducible refine Below.step ?_ (by assumption) ?_); rotate_left; (focus (first | omega | (dsimp only; omega) | (simp; done) | (simp; omega)))))))).mono ?_
              rintro e w9 ⟨rfl, hb9⟩
              have hb9w : Below w7.heap.size w7 w9 := by (repeat (first | with_reducible exact Below.refl _ _ | with_reducible assumption | (with_reducible refine Below.drew ?_) | (with_reducible refine Below.manyDrew ?_ _) | ((with_reducible refine Below.alloc ?_ ?_ _); rotate_left; (focus (first | omega | (dsimp only; omega) | (simp; done) | (simp; omega)))) | ((with_reducible refine Below.setCell ?_ ?_ _); rotate_left; (focus (first | omega | (dsimp only; omega) | (simp; done) | (simp; omega)))) | ((with_reducible refine Below.step ?_ (by assumption) ?_); rotate_left; (focus (first | omega | (dsimp only; omega) | (simp; done) | (simp; omega))))))
              have hbw9 : Below w.heap.size w w9 := Below.step Hbf.out hb9w Hbf.out.size
              have hg9 := hgl.below hbw9 hg0
              have Hb9w := hid hb9w
              have Hbw9 := hid hbw9
              clear hb9w hbw9
              go_wp2_with fail
              refine (error_any c c _ hg9).mono ?_
              rintro e w10 ⟨rfl, hb10⟩
              rw [beq_self_eq_true]
              go_wp2_with fail
              rw [← HA2.out]
              go_roundw
              case rel => exact ⟨n + 1, fs', by omega, by go_num, hl8', (HBf.out.belowS Hb9w.out).belowS hb10, (HWf.out.belowS Hb9w.out).belowS hb10, Below.step Hbw9.out hb10 Hbw9.out.size⟩
              case measure => simp [intOf]; omega
          · have hnl' : ¬ ((n : Int) < (l.xs.length : Int)) := by omega
            go_wp2_with fail
            go_roundw
            case rel => exact ⟨n + 1, fs', by omega, by go_num, hl8', hBf, hWf, hbf⟩
            case measure => simp [intOf]; omega
      · go_wp2_with fail
        go_ret
        exact ⟨rfl, hbr⟩
    · go_wp2_with fail
      go_ret
      exact ⟨rfl, hbr⟩

set_option maxRecDepth 100000 in
theorem floorPlays_walk : LawWalk Tryd.prog 3 Tryd.f3 Gl := by
  intro W base args H enc ds p hval hA hgl
  rw [Tryd.params3] at hA hval
  obtain ⟨v0, v1, d0, d1, p0, p1, rfl, rfl, rfl, h0, h1⟩ := trodAll_two hA
  obtain ⟨st, rfl, hst⟩ := arg_slice Tryd.underlying22 codecInts (pos_of_eq Tryd.cellsInts (by decide)) (hval 0 22 v0 rfl rfl) h0
  obtain ⟨l, rfl, hl⟩ := arg_slice Tryd.underlying23 codecEntry (pos_of_eq Tryd.cellsEntry (by decide)) (hval 1 23 v1 rfl rfl) h1
  exact floorPlays_any st l W (intssAt_of hst) (entriesAt_of hl) hgl

set_option maxRecDepth 100000 in
theorem floorPlays_lifted (os : Os) (started : os.Started) (H : Type) (enc : TypeId × Value → H) :
    ReturnsInHanded {} Tryd.checked os 3 .any (fun w args => (Rows.floorPlaysSpec.pre enc Tryd.checked.prog Tryd.f3 [] false w args ∧ laidMetH Tryd.prog theLaid w) ∧ sizedMet enc Tryd.checked.prog Tryd.f3 (OpenSpec.ofChange Rows.floorPlaysSpec) false w args) (Rows.floorPlaysSpec.post enc Tryd.checked.prog Tryd.f3 false true false false) :=
  laid_lifted (C := Tryd.checked) theLaid (fun _ h => handle_of_laid h) [] Tryd.own started (by kernel_rfl) Tryd.func3 Tryd.laidOut (by kernel_rfl) rfl Tryd.underlying4 rfl (fun ds h => by match ds, h with | [_, _], _ => rfl)
    (ChangeSpec.witness_at (enc := enc) (C := Tryd.checked) (os := os) (X := fun w _ => laidMetH Tryd.prog theLaid w) false (laidWorld os) #[.slice none 0 0, .slice none 0 0] 8 rfl (by kernel_rfl) (by kernel_rfl) (by kernel_rfl) (by kernel_rfl) (by kernel_rfl) (laidWorld_met os _)) floorPlays_walk

theorem floorPlays_row : Rows.FloorPlaysSaid :=
  OpenClaim.holds_of_wide 3 Tryd.f3 rfl rfl rfl rfl rfl rfl rfl ⟨rfl, rfl, rfl, rfl, rfl⟩ rfl rfl rfl rfl rfl (by kernel_rfl) Tryd.func3 (by kernel_rfl)
    (of_decide_eq_true (by kernel_rfl)) (by unfold Func.isWrapper; rw [if_neg (of_decide_eq_false (by kernel_rfl))]; exact ⟨rfl, rfl⟩)
    (fun os started H enc _ => floorPlays_lifted os started H enc)

theorem floorPlays_holds : Rows.FloorPlaysCardSaid :=
  Claim7.holds_tied_plain_at .later [] [.handle] true _ true
    floorPlays_row (fun _ h => by cases h) (by kernel_rfl) (fun _ h => by cases h) floorPlays_row_tie rfl ⟨rfl, rfl⟩ (by kernel_rfl) rfl
    (fun f fn hf hfn => by
      obtain rfl : f = 3 := Option.some.inj ((show Tryd.prog.funcNamed "beaconmere/merelaw1.FloorPlays" = some 3 by kernel_rfl).symm.trans hf) |>.symm
      obtain rfl : fn = Tryd.f3 := (Option.some.inj (Tryd.func3.symm.trans hfn)).symm
      refine ⟨by kernel_rfl, fun j t ht => ?_⟩
      have hall : Tryd.f3.params.toList.all (fun t => !Tryd.prog.wantsStandIn t) = true := by kernel_rfl
      have hm : t ∈ Tryd.f3.params.toList := by
        obtain ⟨hj, hje⟩ := Array.getElem?_eq_some_iff.1 ht
        rw [← hje]
        exact Array.mem_toList_iff.2 (Array.getElem_mem hj)
      have := List.all_eq_true.1 hall t hm
      exact (show Tryd.prog.wantsStandIn t = false by simpa using this))
    (by kernel_rfl)

end Go.Proofs.YtdnkegcffmjemaaDoor
