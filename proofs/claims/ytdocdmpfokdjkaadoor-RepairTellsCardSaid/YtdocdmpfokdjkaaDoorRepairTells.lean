/-
  PROVED HERE: merelaw2.RepairTells returns true: the newest of any key in any caches, which lack it, all with it, and whether any choices meet are as the document says. CONDITIONS: errors.errorType as the program's text lays it (tied by the card).
-/
import Derived.Test.YtdocdmpfokdjkaaDoorRepair2
import Derived.Test.YtdocdmpfokdjkaaDoorRRead
import Derived.Test.YtdocdmpfokdjkaaDoorRAll
import Derived.Test.YtdocdmpfokdjkaaDoorMeet
import Derived.Test.YtdocdmpfokdjkaaDoorSameCaches
import Derived.Test.YtdocdmpfokdjkaaDoorRCaches
import Derived.Test.YtdocdmpfokdjkaaDoorInts
import Derived.Test.YtdocdmpfokdjkaaDoorDoor
import Derived.Deep.CutBlock
import Derived.Deep.DeepCutAuto
namespace Go.Proofs.YtdocdmpfokdjkaaDoor
open Go.RowKit
open Go.ChangeShapes Go.WideShapes Go.ChangeAt

set_option maxHeartbeats 16000000 in
set_option maxRecDepth 100000 in
theorem repairTells_any (s : SlV (SlV E)) (k n r v : Int) (w : World) (hs : CachesAt w s) (hgl : Gl w) :
    Calls Tryd.prog 5 #[.slice s.A s.xs.length s.c, .int .i64 k, .int .i64 n, .int .i64 r, .int .i64 v] w fun e w' => e = .returned (.bool true) ∧ Below w.heap.size w w' := by
  have hg0 := hgl.lt
  have hlen := hs.len
  unfold maxLen at hlen
  have Hs := hid (fun W (hW : Below w.heap.size w W) => hs.stays hW)
  have Hee := hid (fun (e0 : Int) (W : World) (hW : Below w.heap.size w W) => error_any e0 e0 W (hgl.below hW hg0))
  have HT := hid (rcaches_any s w hs)
  have HRr := hid (fun W (hW : Below w.heap.size w W) (hch : ∀ c ∈ s.xs, chkC c.xs = 0) => rread_any s k W (hs.stays hW) hch)
  have HRd := hid (fun W (hW : Below w.heap.size w W) => read_any s k W (hs.stays hW))
  have HLk := hid (fun W (hW : Below w.heap.size w W) => lacks_any s k W (hs.stays hW))
  have HWr := hid (fun W (hW : Below w.heap.size w W) => write_any s k W (hs.stays hW))
  have HTK := hid (show chkTK s.xs k = if chkT s.xs = 0 then (if keyB k = true then 0 else 1) else chkT s.xs from rfl)
  have HR := hid (show readR s.xs k = if chkTK s.xs k = 0 then readG k false E.zero s.xs else (E.zero, chkTK s.xs k) from rfl)
  obtain ⟨ct, hct⟩ : ∃ ct, chkT s.xs = ct := ⟨_, rfl⟩
  rw [hct] at HT HTK
  have Hct := hid hct
  clear hs hct
  go_enter Tryd.func5, Tryd.ntmps5
  go_wp2_with fail
  refine HT.out.mono ?_
  rintro e w1 ⟨rfl, hb1⟩
  have Hb1 := hid hb1
  have hz1 := hb1.size
  clear hb1 HT
  go_upto_region 3 with ((go_at_call 18; refine (rkey_any _ _).mono ?_; rintro e w' ⟨rfl, rfl⟩))
  obtain ⟨tb, htb⟩ : ∃ tb, tb = (decide (ct = 0) && !keyB k) := ⟨_, rfl⟩
  have Htb := hid htb
  go_cut [39] (fun t wx => t = .bool tb ∧ wx = w1)
  case first =>
    as_aux_lemma =>
    by_cases h : ct = 0
    · have hb : (ct == 0) = true := by rw [beq_iff_eq]; exact h
      clear htb
      go_wp2_with fail
      go_meet
      exact ⟨by rw [Htb.out, h]; simp, rfl⟩
    · have hb : (ct == 0) = false := by rw [beq_eq_false_iff_ne]; exact h
      clear htb
      go_wp2_with fail
      go_meet
      exact ⟨by rw [Htb.out, decide_eq_false h]; rfl, rfl⟩
  case rest =>
  obtain ⟨rfl, hwc⟩ := hcut
  obtain rfl : w1 = wc := hwc.symm
  obtain ⟨ck, hck⟩ : ∃ ck, chkTK s.xs k = ck := ⟨_, rfl⟩
  rw [hck] at HTK HR
  have Hck := hid hck
  have HTb := hid (show ck = if tb = true then 1 else ct from by
    rw [HTK.out, htb]
    by_cases h : ct = 0
    · rw [if_pos h, decide_eq_true h]
      rcases keyB k with _ | _
      · simp
      · simp [h]
    · rw [if_neg h, decide_eq_false h]
      simp)
  clear htb hck
  go_upto_if 39 with fail
  go_cut [11] (fun c wx => c = .int .i64 ck ∧ wx = w1)
  case first =>
    as_aux_lemma =>
    rcases tb with _ | _
    · go_wp2_with fail
      go_meet
      exact ⟨by rw [HTb.out]; rfl, rfl⟩
    · go_wp2_with fail
      go_meet
      exact ⟨by rw [HTb.out]; rfl, rfl⟩
  case rest =>
  obtain ⟨rfl, hwc⟩ := hcut
  obtain rfl : w1 = wc := hwc.symm
  go_upto_if 41 with fail
  obtain ⟨w2, hw2⟩ : ∃ W : World, W = w1.alloc (.cells #[.int .i64 0, .int .i64 0, .int .i64 0, .bool false, .string ⟨#[]⟩] 47) := ⟨_, rfl⟩
  rw [← hw2]
  have HX2 := hid (show Blk w2 w1.heap.size 47 #[.int .i64 0, .int .i64 0, .int .i64 0, .bool false, .string ⟨#[]⟩] by rw [hw2]; exact Blk.new _ _ _)
  have Hb2 := hid (show Below w.heap.size w w2 by rw [hw2]; exact Hb1.out.alloc hz1 _)
  clear hw2
  obtain ⟨R, hRe⟩ : ∃ R, readR s.xs k = R := ⟨_, rfl⟩
  have HLR := hid (show lacksR s.xs k = if R.2 = 0 then (lacksF k R.1.ver 0 s.xs, 0) else ([], R.2) by rw [← hRe]; rfl)
  have HWL := hid (show writeL s.xs k = if R.2 = 0 then s.xs.map (fun c => (addC c.xs R.1).1) else [] by rw [← hRe]; rfl)
  rw [hRe] at HR HRd HWr
  have HRe := hid hRe
  clear hRe
  obtain ⟨⟨x0, x1, x2, x3, x4⟩, en⟩ := R
  simp only [E.val] at HR HRd HWr HLR HWL
  go_cut [11] (fun c wx => c = .int .i64 en ∧ Blk wx w1.heap.size 47 #[.int .i64 x0, .int .i64 x1, .int .i64 x2, .bool x3, .string x4] ∧ Below w.heap.size w wx)
  case first =>
    as_aux_lemma =>
    by_cases h : ck = 0
    · have hG : (⟨x0, x1, x2, x3, x4⟩, en) = readG k false E.zero s.xs := by rw [HR.out, if_pos h]
      have hRr := HRr.out w2 Hb2.out (chkTK_ok (Hck.out.trans h)).2.1
      rw [← hG] at hRr
      simp only [E.val] at hRr
      have HRr2 := hid hRr
      have hb : (ck == 0) = true := by rw [beq_iff_eq]; exact h
      clear hG hRr h
      go_wp2_with fail
      refine HRr2.out.mono ?_
      rintro e w3 ⟨rfl, hb3⟩
      have hX3 := HX2.out.belowS hb3
      have y0 : w3.cell? ⟨w1.heap.size, 0, none⟩ = some (.int .i64 0) := hX3.cell 0
      have y1 : w3.cell? ⟨w1.heap.size, 1, none⟩ = some (.int .i64 0) := hX3.cell 1
      have y2 : w3.cell? ⟨w1.heap.size, 2, none⟩ = some (.int .i64 0) := hX3.cell 2
      have y3 : w3.cell? ⟨w1.heap.size, 3, none⟩ = some (.bool false) := hX3.cell 3
      have y4 : w3.cell? ⟨w1.heap.size, 4, none⟩ = some (.string ⟨#[]⟩) := hX3.cell 4
      have f0 := hX3.frozen 0
      have f1 := hX3.frozen 1
      have f2 := hX3.frozen 2
      have f3 := hX3.frozen 3
      have f4 := hX3.frozen 4
      have hl3 := hX3.lt
      have HX3 := hid hX3
      have hb3' := Below.step Hb2.out hb3 Hb2.out.size
      clear hX3 hb3
      go_wp2_with fail
      go_meet
      exact ⟨rfl, HX3.out.put5 _ _ _ _ _, by (repeat (first | with_reducible exact Below.refl _ _ | with_reducible assumption | (with_reducible refine Below.drew ?_) | (with_reducible refine Below.manyDrew ?_ _) | ((with_reducible refine Below.alloc ?_ ?_ _); rotate_left; (focus (first | omega | (dsimp only; omega) | (simp; done) | (simp; omega)))) | ((with_reducible refine Below.setCell ?_ ?_ _); rotate_left; (focus (first | omega | (dsimp only; omega) | (simp; done) | (simp; omega)))) | ((with_reducible refine Below.step ?_ (by assumption) ?_); rotate_left; (focus (first | omega | (dsimp only; omega) | (simp; done) | (simp; omega))))))⟩
    · have hG : (⟨⟨x0, x1, x2, x3, x4⟩, en⟩ : E × Int) = (E.zero, ck) := by rw [HR.out, if_neg h]
      have hb : (ck == 0) = false := by rw [beq_eq_false_iff_ne]; exact h
      injection hG with hE hen
      unfold E.zero at hE
      injection hE with e0 e1 e2 e3 e4
      subst e0 e1 e2 e3 e4 hen
      clear h
      go_wp2_with fail
      go_meet
      exact ⟨rfl, HX2.out, Hb2.out⟩
  case rest =>
  obtain ⟨rfl, hX3, hb3⟩ := hcut
  obtain ⟨w3, rfl⟩ : ∃ w3 : World, w3 = wc := ⟨_, rfl⟩
  have HX3 := hid (fun W (hW : Below w3.heap.size w3 W) => hX3.belowS hW)
  have Hb3 := hid hb3
  have hz3 := hb3.size
  have hl3 := hX3.lt
  obtain ⟨ev, hev⟩ : ∃ ev, errV en = ev := ⟨_, rfl⟩
  rw [hev] at HRd HWr
  have Hev := hid hev
  have HRd3 := hid (HRd.out w3 hb3)
  clear hX3 hb3 hev HRd HRr HX2 Hb2
  go_wp2_with fail
  refine HRd3.out.mono ?_
  rintro e w4 ⟨rfl, hb4⟩
  have Hb34 := hid hb4
  have Hb4 := hid (Below.step Hb3.out hb4 hz3)
  clear hb4 HRd3
  go_upto_region 9 with fail
  obtain ⟨w5, hw5⟩ : ∃ W : World, W = w4.alloc (.cells #[.int .i64 x0, .int .i64 x1, .int .i64 x2, .bool x3, .string x4] 47) := ⟨_, rfl⟩
  rw [← hw5]
  have HY5 := hid (show Blk w5 w4.heap.size 47 #[.int .i64 x0, .int .i64 x1, .int .i64 x2, .bool x3, .string x4] by rw [hw5]; exact Blk.new _ _ _)
  have Hb35 := hid (show Below w3.heap.size w3 w5 by rw [hw5]; exact Hb34.out.alloc Hb34.out.size _)
  have Hb5 := hid (Below.step Hb3.out Hb35.out hz3)
  have hz5 := Hb5.out.size
  have hl45 := HY5.out.lt
  clear hw5
  go_cut [16] (fun t wx => t = .bool true ∧ Below w5.heap.size w5 wx)
  case first =>
    as_aux_lemma =>
    have hE := Hee.out en w5 Hb5.out
    rw [Hev.out, beq_self_eq_true] at hE
    have HE := hid hE
    clear hE
    go_wp2_with fail
    refine HE.out.mono ?_
    rintro e w6 ⟨rfl, hb6⟩
    have hX6 := HX3.out w6 (Below.step Hb35.out hb6 Hb35.out.size)
    have hY6 := HY5.out.belowS hb6
    have c0 : w6.cell? ⟨w1.heap.size, 0, none⟩ = some (.int .i64 x0) := hX6.cell 0
    have c1 : w6.cell? ⟨w1.heap.size, 1, none⟩ = some (.int .i64 x1) := hX6.cell 1
    have c2 : w6.cell? ⟨w1.heap.size, 2, none⟩ = some (.int .i64 x2) := hX6.cell 2
    have c3 : w6.cell? ⟨w1.heap.size, 3, none⟩ = some (.bool x3) := hX6.cell 3
    have c4 : w6.cell? ⟨w1.heap.size, 4, none⟩ = some (.string x4) := hX6.cell 4
    have d0 : w6.cell? ⟨w4.heap.size, 0, none⟩ = some (.int .i64 x0) := hY6.cell 0
    have d1 : w6.cell? ⟨w4.heap.size, 1, none⟩ = some (.int .i64 x1) := hY6.cell 1
    have d2 : w6.cell? ⟨w4.heap.size, 2, none⟩ = some (.int .i64 x2) := hY6.cell 2
    have d3 : w6.cell? ⟨w4.heap.size, 3, none⟩ = some (.bool x3) := hY6.cell 3
    have d4 : w6.cell? ⟨w4.heap.size, 4, none⟩ = some (.string x4) := hY6.cell 4
    have heq := fun W => eqRunE x0 x1 x2 x3 x4 x0 x1 x2 x3 x4 W
    rw [eqbE_refl] at heq
    have Hb6 := hid hb6
    have hlx6 := hX6.lt
    have hly6 := hY6.lt
    clear hb6 hX6 hY6
    go_wp2_with fail
    go_meet
    exact ⟨rfl, Hb6.out⟩
  case rest =>
  obtain ⟨rfl, hb6⟩ := hcut
  obtain ⟨w6, rfl⟩ : ∃ w6 : World, w6 = wc := ⟨_, rfl⟩
  have Hb36 := hid (Below.step Hb35.out hb6 Hb35.out.size)
  have Hb6 := hid (Below.step Hb5.out hb6 Hb5.out.size)
  have hz6 := Hb6.out.size
  have HX6 := hid (HX3.out w6 Hb36.out)
  clear hb6 hl45
  go_upto_block 0 with fail
  go_cut [17] (fun t wx => ∃ q : SlV Int, t = .slice q.A q.xs.length q.c ∧ q.xs = (lacksR s.xs k).1 ∧ IntsAt wx q ∧ Blk wx w1.heap.size 47 #[.int .i64 x0, .int .i64 x1, .int .i64 x2, .bool x3, .string x4] ∧ Below w.heap.size w wx)
  case first =>
    as_aux_lemma =>
    by_cases hen : en = 0
    · subst hen
      have hL := HLR.out
      rw [if_pos rfl] at hL
      have HL := hid hL
      have hck0 : ck = 0 := by
        by_cases h : ck = 0
        · exact h
        · have := HR.out
          rw [if_neg h] at this
          injection this with _ h2
          exact absurd h2.symm h
      have Hch := hid (chkTK_ok (Hck.out.trans hck0)).2.1
      clear hL hck0
      go_wp2_with fail
      go_loopw [17, 18] (fun o i wr => ∃ j : Nat, j ≤ s.xs.length ∧ i = .int .i64 j ∧ Ow cellI 1 w.heap.size 3 wr o (lacksF k x1 0 (s.xs.take j)) ∧ Blk wr w1.heap.size 47 #[.int .i64 x0, .int .i64 x1, .int .i64 x2, .bool x3, .string x4] ∧ Below w.heap.size w wr) (fun _ i _ => s.xs.length - (intOf i).toNat)
      case atStart => exact ⟨0, Nat.zero_le _, rfl, Ow.nil _ _ _ _ _, HX6.out, Hb6.out⟩
      case round =>
        obtain ⟨j, hj, rfl, hO, hB, hbr⟩ := hrel
        have hz0 := hbr.size
        have hlo := hB.lt
        obtain ⟨Ao, co, hv, -, -, -⟩ := hO.form
        subst hv
        have HO := hid hO
        have HB := hid hB
        have Hbr := hid hbr
        by_cases hlt : j < s.xs.length
        · have hss := Hs.out wr hbr
          obtain ⟨b, off, hA, hb, hcells⟩ := hss.row (by omega)
          have hcell := hcells j hlt
          have hin := hss.each j hlt
          have hcc := Hch.out _ (List.getElem_mem hlt)
          have hsn : lacksF k x1 0 (s.xs.take (j + 1)) = if lacksB k x1 s.xs[j] = true then lacksF k x1 0 (s.xs.take j) ++ [(j : Int)] else lacksF k x1 0 (s.xs.take j) := by
            rw [List.take_succ_eq_append_getElem hlt, lacksF_snoc, List.length_take, show 0 + min j s.xs.length = j by omega]
          have hll : (lacksF k x1 0 (s.xs.take j)).length ≤ 100000000 := by
            have h1 := lacksF_len k x1 (s.xs.take j) 0
            have h2 := (chkTK_ok (l := s.xs) (k := k) (by
              by_cases h : ck = 0
              · exact Hck.out.trans h
              · have := HR.out
                rw [if_neg h] at this
                injection this with _ h2
                exact absurd h2.symm h)).1.2
            rw [List.length_take] at h1
            omega
          generalize s.xs[j] = c at *
          have hG := rget_any c k wr hin
          generalize hlq : lacksF k x1 0 (s.xs.take j) = L at *
          have HSn := hid hsn
          obtain ⟨lb, hlbe⟩ : ∃ lb, lacksB k x1 c = lb := ⟨_, rfl⟩
          rw [hlbe] at HSn
          unfold lacksB at hlbe
          cases hlk : lk c.xs k with
          | none =>
            rw [hlk] at hlbe
            rw [show rget c.xs k = (E.zero, false) by rw [rget, hlk]] at hG
            obtain rfl : true = lb := hlbe
            have HG := hid hG
            rw [show E.zero.val = .agg #[.int .i64 0, .int .i64 0, .int .i64 0, .bool false, .string ⟨#[]⟩] from rfl] at HG
            rw [hA]
            clear hlk hA hcells hsn hO hB hbr hcc hlq hin hG hss
            go_wp2_with fail
            refine HG.out.mono ?_
            rintro e w7 ⟨rfl, hb7⟩
            have HO7 := hid ((HO.out.belowS hb7).alloc (.cells #[.int .i64 0, .int .i64 0, .int .i64 0, .bool false, .string ⟨#[]⟩] 47))
            have HB7 := hid ((HB.out.belowS hb7).alloc (.cells #[.int .i64 0, .int .i64 0, .int .i64 0, .bool false, .string ⟨#[]⟩] 47))
            have hb7' := Below.step Hbr.out hb7 hz0
            have Hb7 := hid (hb7'.alloc hb7'.size (.cells #[.int .i64 0, .int .i64 0, .int .i64 0, .bool false, .string ⟨#[]⟩] 47))
            have hz7 := Hb7.out.size
            clear hb7 HG hcell hb7'
            go_wp2_with (at_builtin; refine appI _ w.heap.size _ L (j : Int) HO7.out rfl _ _ rfl rfl rfl (World.size_alloc _ _) hll hz7 ?_)
            intro v8 w8 h8 f8 o8
            have HB8 := hid (HB7.out.fr f8 (fun e => HO7.out.apart HB7.out tyIE e))
            have Hb8 := hid (Hb7.out.trans (f8.below0 hz7 (fun i hi => HO7.out.ge _ hi)))
            have HO8 := hid h8
            obtain ⟨A8, c8, hv8, -, -, -⟩ := h8.form
            clear h8 f8 o8
            go_wp2_with fail
            go_roundw
            case rel => exact ⟨j + 1, by omega, by go_num, by rw [HSn.out, if_pos trivial]; exact HO8.out, HB8.out, Hb8.out⟩
            case measure => simp [intOf]; omega
          | some y =>
            rw [hlk] at hlbe
            rw [show rget c.xs k = (y, true) by rw [rget, hlk]] at hG
            obtain ⟨y0, y1, y2, y3, y4⟩ := y
            simp only [E.val] at hG hlbe
            have HG := hid hG
            rw [hA]
            rcases lb with _ | _
            all_goals
              have hyx := hlbe
              simp only [decide_eq_true_eq, decide_eq_false_iff_not] at hyx
              clear hlk hA hcells hsn hO hB hbr hcc hlq hin hG hss hlbe
              go_wp2_with fail
              refine HG.out.mono ?_
              rintro e w7 ⟨rfl, hb7⟩
              go_upto_region 15 with fail
              obtain ⟨w8, hw8⟩ : ∃ W : World, W = w7.alloc (.cells #[.int .i64 y0, .int .i64 y1, .int .i64 y2, .bool y3, .string y4] 47) := ⟨_, rfl⟩
              rw [← hw8]
              have hY8 : Blk w8 w7.heap.size 47 #[.int .i64 y0, .int .i64 y1, .int .i64 y2, .bool y3, .string y4] := by rw [hw8]; exact Blk.new _ _ _
              have HO8 := hid (show Ow cellI 1 w.heap.size 3 w8 _ L from by rw [hw8]; exact (HO.out.belowS hb7).alloc _)
              have hB8 : Blk w8 w1.heap.size 47 #[.int .i64 x0, .int .i64 x1, .int .i64 x2, .bool x3, .string x4] := by rw [hw8]; exact (HB.out.belowS hb7).alloc _
              have Hb8 := hid (show Below w.heap.size w w8 by rw [hw8]; exact (Below.step Hbr.out hb7 hz0).alloc (Below.step Hbr.out hb7 hz0).size _)
              have hz8 := Hb8.out.size
              have d1 : w8.cell? ⟨w7.heap.size, 1, none⟩ = some (.int .i64 y1) := hY8.cell 1
              have e1 : w8.cell? ⟨w1.heap.size, 1, none⟩ = some (.int .i64 x1) := hB8.cell 1
              have hl8 := hY8.lt
              have hl8' := hB8.lt
              have HB8 := hid hB8
              clear hw8 hb7 HG hcell hY8 hB8
              go_wp2_with (at_builtin; refine appI _ w.heap.size _ L (j : Int) HO8.out rfl _ _ rfl rfl rfl rfl hll hz8 ?_)
            · go_roundw
              case rel => exact ⟨j + 1, by omega, by go_num, by rw [HSn.out, if_neg (by decide)]; exact HO8.out, HB8.out, Hb8.out⟩
              case measure => simp [intOf]; omega
            · intro v9 w9 h9 f9 o9
              have HB9 := hid (HB8.out.fr f9 (fun e => HO8.out.apart HB8.out tyIE e))
              have Hb9 := hid (Hb8.out.trans (f9.below0 hz8 (fun i hi => HO8.out.ge _ hi)))
              have HO9 := hid h9
              obtain ⟨A9, c9, hv9, -, -, -⟩ := h9.form
              clear h9 f9 o9
              go_wp2_with fail
              go_roundw
              case rel => exact ⟨j + 1, by omega, by go_num, by rw [HSn.out, if_pos trivial]; exact HO9.out, HB9.out, Hb9.out⟩
              case measure => simp [intOf]; omega
        · obtain rfl : j = s.xs.length := by omega
          have hO' := HO.out
          rw [List.take_length] at hO'
          obtain ⟨q, hq, hqx, hqA, -, -⟩ := IntsAt.of_ow hO'
          rw [List.take_length]
          rw [hq]
          have Hqx := hid hqx
          have HqA := hid hqA
          clear hO' hO hB hbr hq hqx hqA HO
          go_wp2_with fail
          go_meet
          exact ⟨q, rfl, by rw [Hqx.out, HL.out], HqA.out, HB.out, Hbr.out⟩
    · have hL := HLR.out
      rw [if_neg hen] at hL
      have HL := hid hL
      have hb : (en == 0) = false := by rw [beq_eq_false_iff_ne]; exact hen
      clear hL hen
      by_cases h0 : 0 < s.xs.length
      · have h0' : (0 : Int) < (s.xs.length : Int) := by omega
        go_wp2_with fail
        go_loopw [17, 18] (fun o i wr => o = .slice none 0 0 ∧ i = .int .i64 0 ∧ wr = w6) (fun _ i _ => 0)
        case atStart => exact ⟨rfl, rfl, rfl⟩
        case round =>
          obtain ⟨rfl, rfl, hwr⟩ := hrel
          obtain rfl : w6 = wr := hwr.symm
          go_wp2_with fail
          go_meet
          exact ⟨⟨none, 0, []⟩, rfl, by rw [HL.out], IntsAt.bare _ _ _, HX6.out, Hb6.out⟩
      · have h0' : ¬ (0 : Int) < (s.xs.length : Int) := by omega
        go_wp2_with fail
        go_loopw [17, 18] (fun o i wr => o = .slice none 0 0 ∧ i = .int .i64 0 ∧ wr = w6) (fun _ i _ => 0)
        case atStart => exact ⟨rfl, rfl, rfl⟩
        case round =>
          obtain ⟨rfl, rfl, hwr⟩ := hrel
          obtain rfl : w6 = wr := hwr.symm
          go_wp2_with fail
          go_meet
          exact ⟨⟨none, 0, []⟩, rfl, by rw [HL.out], IntsAt.bare _ _ _, HX6.out, Hb6.out⟩
  case rest =>
  obtain ⟨q, rfl, hqx, hqA, hX7, hb7⟩ := hcut
  obtain ⟨w7, rfl⟩ : ∃ w7 : World, w7 = wc := ⟨_, rfl⟩
  have hl2 : (lacksR s.xs k).2 = en := by
    rw [HLR.out]
    by_cases h : en = 0
    · rw [if_pos h, h]
    · rw [if_neg h]
  have HLk7 := hid (HLk.out w7 hb7)
  rw [hl2, Hev.out] at HLk7
  have Hb7 := hid hb7
  have hz7 := hb7.size
  have Hqx := hid hqx
  have HqA := hid (fun W (hW : Below w7.heap.size w7 W) => hqA.stays0 hW)
  have HX7 := hid (fun W (hW : Below w7.heap.size w7 W) => hX7.belowS hW)
  have hl7 := hX7.lt
  clear hl2 hb7 hqx hqA hX7 HX6 HLk Hb6 HLR
  go_wp2_with fail
  refine HLk7.out.mono ?_
  rintro e w8 ⟨p, rfl, hpx, hpA, hb8⟩
  have Hb78 := hid hb8
  have Hb8 := hid (Below.step Hb7.out hb8 hz7)
  have hz8 := Hb8.out.size
  have Hpx := hid hpx
  have HpA := hid (fun W (hW : Below w8.heap.size w8 W) => hpA.stays0 hW)
  clear hpx hpA hb8 HLk7
  go_upto_region 18 with fail
  go_cut [22] (fun t wx => t = .bool true ∧ Below w8.heap.size w8 wx)
  case first =>
    as_aux_lemma =>
    have hE := Hee.out en w8 Hb8.out
    rw [Hev.out, beq_self_eq_true] at hE
    have HE := hid hE
    have HI := hid (fun W (hW : Below w8.heap.size w8 W) => ints_any p q W (HpA.out W hW) (HqA.out W (Below.step Hb78.out hW Hb78.out.size)))
    rw [show sameI p.xs q.xs = true from sameI_true.2 (by rw [Hpx.out, Hqx.out])] at HI
    clear hE
    go_wp2_with fail
    refine HE.out.mono ?_
    rintro e w9 ⟨rfl, hb9⟩
    have Hb9 := hid hb9
    have HI9 := hid (HI.out w9 hb9)
    clear hb9 HI HE
    go_wp2_with fail
    refine HI9.out.mono ?_
    rintro e w10 ⟨rfl, hb10⟩
    have Hb10 := hid (Below.step Hb9.out hb10 Hb9.out.size)
    clear hb10
    go_wp2_with fail
    go_meet
    exact ⟨rfl, Hb10.out⟩
  case rest =>
  obtain ⟨rfl, hb9⟩ := hcut
  obtain ⟨w9, rfl⟩ : ∃ w9 : World, w9 = wc := ⟨_, rfl⟩
  have Hb79 := hid (Below.step Hb78.out hb9 Hb78.out.size)
  have Hb9 := hid (Below.step Hb8.out hb9 hz8)
  have HX9 := hid (HX7.out w9 Hb79.out)
  have hz9 := Hb9.out.size
  have hl9 := HX9.out.lt
  clear hb9 HX7 HpA HqA Hpx Hqx Hb78 Hb8
  go_upto_block 2 with fail
  go_cut [11, 23] (fun f t wx => f = .int .i64 en ∧ (∃ z : SlV (SlV E), t = .slice z.A z.xs.length z.c ∧ z.xs.map SlV.xs = writeL s.xs k ∧ CachesAt wx z) ∧ Below w.heap.size w wx)
  case first =>
    as_aux_lemma =>
    by_cases hen : en = 0
    · subst hen
      have hW := HWL.out
      rw [if_pos rfl] at hW
      have HW := hid hW
      obtain ⟨hckt, _⟩ := readR_zero HRe.out
      obtain ⟨⟨_, h6⟩, hch, hkB⟩ := chkTK_ok hckt
      obtain ⟨hcx, hxk, hadd⟩ := repair_add HRe.out
      have Hch := hid hch
      have Hadd := hid hadd
      have h6' := h6
      clear hW hckt hch hkB hadd hcx hxk h6
      go_wp2_with fail
      go_loopw [11, 23, 24] (fun f o i wr => ∃ (j : Nat) (q : List (SlV E)), j ≤ s.xs.length ∧ f = .int .i64 0 ∧ i = .int .i64 j ∧ Ow cellS 1 w.heap.size 43 wr o q ∧ q.map SlV.xs = (s.xs.take j).map (fun c => (addC c.xs ⟨x0, x1, x2, x3, x4⟩).1) ∧ (∀ x ∈ q, OwnC w.heap.size wr x) ∧ Blk wr w1.heap.size 47 #[.int .i64 x0, .int .i64 x1, .int .i64 x2, .bool x3, .string x4] ∧ Below w.heap.size w wr) (fun _ _ i _ => s.xs.length - (intOf i).toNat)
      case atStart => exact ⟨0, [], Nat.zero_le _, rfl, rfl, Ow.nil _ _ _ _ _, rfl, (fun x hx => by cases hx), HX9.out, Hb9.out⟩
      case round =>
        obtain ⟨j, q, hj, rfl, rfl, hO, hq, hqo, hB, hbr⟩ := hrel
        have hz0 := hbr.size
        have hlo := hB.lt
        obtain ⟨Ao, co, hv, -, -, -⟩ := hO.form
        subst hv
        have HO := hid hO
        have HB := hid hB
        have Hbr := hid hbr
        have Hq := hid hq
        have Hqo := hid hqo
        have hql := hid (show q.length = j by
          have := congrArg List.length hq
          rw [List.length_map, List.length_map, List.length_take] at this
          omega)
        by_cases hlt : j < s.xs.length
        · have hss := Hs.out wr hbr
          obtain ⟨b, off, hA, hb, hcells⟩ := hss.row (by omega)
          have hcell := hcells j hlt
          have hin := (hss.each j hlt).es
          have hmem := List.getElem_mem hlt
          have hcc := Hch.out _ hmem
          obtain ⟨ha0, hac, -⟩ := Hadd.out _ hmem
          have hq2 := hid (show (s.xs.take (j + 1)).map (fun c => (addC c.xs ⟨x0, x1, x2, x3, x4⟩).1) = q.map SlV.xs ++ [(addC s.xs[j].xs ⟨x0, x1, x2, x3, x4⟩).1] by rw [List.take_succ_eq_append_getElem hlt, List.map_append, hq]; rfl)
          generalize s.xs[j] = c at *
          have HAd := hid (fun W (hW : Below wr.heap.size wr W) => radd_any c x0 x1 x2 x3 x4 W (hin.stays hW) (val_facts hcc).2.2)
          rw [radd_addC hcc] at HAd
          have hA0 : addC c.xs ⟨x0, x1, x2, x3, x4⟩ = ((addC c.xs ⟨x0, x1, x2, x3, x4⟩).1, 0) := by rw [← ha0]
          rw [hA0] at HAd
          have Hac := hid (val_good hac)
          generalize (addC c.xs ⟨x0, x1, x2, x3, x4⟩).1 = l2 at *
          have c0 := hB.cell 0
          have c1 := hB.cell 1
          have c2 := hB.cell 2
          have c3 := hB.cell 3
          have c4 := hB.cell 4
          simp at c0 c1 c2 c3 c4
          rw [hA]
          have hll : q.length ≤ 100000000 := by rw [hql.out]; omega
          clear hA hcells hO hB hbr hq hqo ha0 hac hmem hin hA0 hcc hss
          go_upto_region 24 with fail
          go_cut [11, 25] (fun f t wx => f = .int .i64 0 ∧ (∃ y : SlV E, t = .slice y.A y.xs.length y.c ∧ y.xs = l2 ∧ OwnC w.heap.size wx y) ∧ Below wr.heap.size wr wx)
          case first =>
            go_region_law (first | (go_simp; go_at_call 23; refine (HAd.out _ (Below.manyDrew (Below.refl _ _) 1)).mono ?_; rintro e wj ⟨vj, rfl, hOj, hbj⟩; have hbj2 : Below wr.heap.size wr wj := (Below.manyDrew (Below.refl _ _) 1).trans hbj))
            all_goals
              go_wp2_with fail
              go_meet
              obtain ⟨y, hy1, hy2, hy3⟩ := OwnC.of_ow (hOj.mono hz0) Hac.out
              exact ⟨rfl, ⟨y, hy1, hy2, hy3⟩, hbj2⟩
          case rest =>
          obtain ⟨rfl, ⟨y, rfl, hyx, hy⟩, hb10⟩ := hcut
          obtain ⟨w10, rfl⟩ : ∃ w10 : World, w10 = wc := ⟨_, rfl⟩
          subst hyx
          have HOo := hid (HO.out.belowS hb10)
          have HB2 := hid (HB.out.belowS hb10)
          have Hb2 := hid (Below.step Hbr.out hb10 hz0)
          have Hy := hid hy
          have Hqo2 := hid (fun x (hx : x ∈ q) => (Hqo.out x hx).belowS hb10)
          have hz3 := Hb2.out.size
          clear hb10 HAd hcell hy c0 c1 c2 c3 c4
          go_wp2_with (at_builtin; refine appSE _ w.heap.size _ q y HOo.out rfl _ _ rfl rfl rfl rfl hll hz3 ?_)
          intro v8 w11 h8 f8 o8
          have HB8 := hid (HB2.out.fr f8 (fun e => HOo.out.apart HB2.out tyCE e))
          have Hb8 := hid (Hb2.out.trans (f8.below0 hz3 (fun i hi => HOo.out.ge _ hi)))
          have HO8 := hid h8
          have HQ8 := hid (show ∀ x ∈ q ++ [y], OwnC w.heap.size w11 x from fun x hx => by
            rcases List.mem_append.1 hx with hx | hx
            · exact (Hqo2.out x hx).keep HOo.out f8
            · rw [List.mem_singleton.1 hx]; exact Hy.out.keep HOo.out f8)
          obtain ⟨A8, c8, hv8, -, -, -⟩ := h8.form
          clear h8 f8 o8
          go_wp2_with fail
          go_roundw
          case rel => exact ⟨j + 1, q ++ [y], by omega, rfl, by go_num, HO8.out, by rw [hq2.out, List.map_append]; rfl, HQ8.out, HB8.out, Hb8.out⟩
          case measure => simp [intOf]; omega
        · obtain rfl : j = s.xs.length := by omega
          have hfin := hid (show RowC w.heap.size wr (.slice Ao q.length co) (s.xs.map (fun c => (addC c.xs ⟨x0, x1, x2, x3, x4⟩).1)) from ⟨q, HO.out, by rw [Hq.out, List.take_length], Hqo.out⟩)
          clear hO hq hqo hB hbr
          go_wp2_with fail
          go_meet
          obtain ⟨z, hz1, hz2, hz3, -⟩ := hfin.out.caches
          exact ⟨rfl, ⟨z, hz1, by rw [hz2, HW.out], hz3⟩, Hbr.out⟩
    · have hW := HWL.out
      rw [if_neg hen] at hW
      have HW := hid hW
      have hb : (en == 0) = false := by rw [beq_eq_false_iff_ne]; exact hen
      clear hW hen
      have hfin := hid (show ∃ z : SlV (SlV E), (Value.slice none 0 0) = .slice z.A z.xs.length z.c ∧ z.xs.map SlV.xs = writeL s.xs k ∧ CachesAt w9 z from ⟨⟨none, 0, []⟩, rfl, by rw [HW.out]; rfl, ⟨(fun h => by cases h), (fun i hi => by cases hi), by unfold maxLen; decide⟩⟩)
      by_cases h0 : 0 < s.xs.length
      · have h0' : (0 : Int) < (s.xs.length : Int) := by omega
        go_wp2_with fail
        go_loopw [11, 23, 24] (fun f o i wr => f = .int .i64 en ∧ o = .slice none 0 0 ∧ i = .int .i64 0 ∧ wr = w9) (fun _ _ i _ => 0)
        case atStart => exact ⟨rfl, rfl, rfl, rfl⟩
        case round =>
          obtain ⟨rfl, rfl, rfl, hwr⟩ := hrel
          obtain rfl : w9 = wr := hwr.symm
          go_wp2_with fail
          go_meet
          exact ⟨rfl, hfin.out, Hb9.out⟩
      · have h0' : ¬ (0 : Int) < (s.xs.length : Int) := by omega
        go_wp2_with fail
        go_loopw [11, 23, 24] (fun f o i wr => f = .int .i64 en ∧ o = .slice none 0 0 ∧ i = .int .i64 0 ∧ wr = w9) (fun _ _ i _ => 0)
        case atStart => exact ⟨rfl, rfl, rfl, rfl⟩
        case round =>
          obtain ⟨rfl, rfl, rfl, hwr⟩ := hrel
          obtain rfl : w9 = wr := hwr.symm
          go_wp2_with fail
          go_meet
          exact ⟨rfl, hfin.out, Hb9.out⟩
  case rest =>
  obtain ⟨rfl, ⟨z, rfl, hzx, hzA⟩, hb10⟩ := hcut
  obtain ⟨w10, rfl⟩ : ∃ w10 : World, w10 = wc := ⟨_, rfl⟩
  have Hzx := hid hzx
  have HzA := hid hzA
  have Hb10 := hid hb10
  have hz10 := hb10.size
  clear hzx hzA hb10 HX9
  go_upto_if 132 with fail
  go_cut [23] (fun t wx => (∃ z : SlV (SlV E), t = .slice z.A z.xs.length z.c ∧ z.xs.map SlV.xs = writeL s.xs k ∧ CachesAt wx z) ∧ wx = w10)
  case first =>
    as_aux_lemma =>
    by_cases hen : en = 0
    · have hb : (en != 0) = false := by rw [hen]; rfl
      clear hen
      go_wp2_with fail
      go_meet
      exact ⟨⟨z, rfl, Hzx.out, HzA.out⟩, rfl⟩
    · have hb : (en != 0) = true := by simpa using hen
      have hW := HWL.out
      rw [if_neg hen] at hW
      have hfin := hid (show ∃ z : SlV (SlV E), (Value.slice none 0 0) = .slice z.A z.xs.length z.c ∧ z.xs.map SlV.xs = writeL s.xs k ∧ CachesAt w10 z from ⟨⟨none, 0, []⟩, rfl, by rw [hW]; rfl, ⟨(fun h => by cases h), (fun i hi => by cases hi), by unfold maxLen; decide⟩⟩)
      clear hen hW
      go_wp2_with fail
      go_meet
      exact ⟨hfin.out, rfl⟩
  case rest =>
  obtain ⟨⟨z, rfl, hzx, hzA⟩, hwc⟩ := hcut
  obtain rfl : w10 = wc := hwc.symm
  have Hzx := hid hzx
  have HzA := hid (fun W (hW : Below w10.heap.size w10 W) => hzA.stays hW)
  have HW10 := hid (HWr.out w10 Hb10.out)
  clear hzx hzA HWr
  go_wp2_with fail
  refine HW10.out.mono ?_
  rintro e w11 ⟨y, rfl, hy, hb11⟩
  obtain ⟨y, rfl, hyx, hyA, -⟩ := hy.caches
  have Hyx := hid hyx
  have HyA := hid (fun W (hW : Below w11.heap.size w11 W) => hyA.stays hW)
  have Hb1011 := hid hb11
  have Hb11 := hid (Below.step Hb10.out hb11 hz10)
  clear hy hyx hyA hb11 HW10
  go_upto_region 29 with fail
  go_cut [27] (fun t wx => t = .bool true ∧ Below w11.heap.size w11 wx)
  case first =>
    as_aux_lemma =>
    have hE := Hee.out en w11 Hb11.out
    rw [Hev.out, beq_self_eq_true] at hE
    have HE := hid hE
    have HI := hid (fun W (hW : Below w11.heap.size w11 W) => caches_same y z W (HyA.out W hW) (HzA.out W (Below.step Hb1011.out hW Hb1011.out.size)) (by rw [Hyx.out, Hzx.out]))
    clear hE
    go_wp2_with fail
    refine HE.out.mono ?_
    rintro e w12 ⟨rfl, hb12⟩
    have Hb12 := hid hb12
    have HI12 := hid (HI.out w12 hb12)
    clear hb12 HI HE
    go_wp2_with fail
    refine HI12.out.mono ?_
    rintro e w13 ⟨rfl, hb13⟩
    have Hb13 := hid (Below.step Hb12.out hb13 Hb12.out.size)
    clear hb13
    go_wp2_with fail
    go_meet
    exact ⟨rfl, Hb13.out⟩
  case rest =>
  obtain ⟨rfl, hb12⟩ := hcut
  obtain ⟨w12, rfl⟩ : ∃ w12 : World, w12 = wc := ⟨_, rfl⟩
  have Hb12 := hid (Below.step Hb11.out hb12 Hb11.out.size)
  have hz12 := Hb12.out.size
  clear hb12 HyA HzA Hyx Hzx
  obtain ⟨me, hme⟩ : ∃ me, meetE n r v = me := ⟨_, rfl⟩
  have HM := hid (meet_ways n r v w12)
  rw [hme] at HM
  have Hme := hid hme
  clear hme
  go_upto_region 31 with fail
  obtain ⟨mb, hmb⟩ : ∃ mb, mb = decide (me ≠ 0) := ⟨_, rfl⟩
  have Hmb := hid hmb
  clear hmb
  go_cut [170] (fun t wx => t = .bool mb ∧ wx = w12)
  case first =>
    as_aux_lemma =>
    have hm : mb = decide (n < 1 ∨ 6 < n ∨ r < 0 ∨ n < r ∨ v < 0 ∨ n < v) := by
      rw [Hmb.out, ← Hme.out, meetE]
      by_cases h : n < 1 ∨ 6 < n ∨ r < 0 ∨ n < r ∨ v < 0 ∨ n < v
      · rw [if_pos h, decide_eq_true h]; rfl
      · rw [if_neg h, decide_eq_false h]; rfl
    have Hm := hid hm
    clear hm
    rcases (show n < 1 ∨ (¬ n < 1 ∧ 6 < n) ∨ (¬ n < 1 ∧ ¬ 6 < n ∧ r < 0) ∨ (¬ n < 1 ∧ ¬ 6 < n ∧ ¬ r < 0 ∧ n < r) ∨ (¬ n < 1 ∧ ¬ 6 < n ∧ ¬ r < 0 ∧ ¬ n < r ∧ v < 0) ∨ (¬ n < 1 ∧ ¬ 6 < n ∧ ¬ r < 0 ∧ ¬ n < r ∧ ¬ v < 0 ∧ n < v) ∨ (¬ n < 1 ∧ ¬ 6 < n ∧ ¬ r < 0 ∧ ¬ n < r ∧ ¬ v < 0 ∧ ¬ n < v) by omega) with h | ⟨h1, h⟩ | ⟨h1, h2, h⟩ | ⟨h1, h2, h3, h⟩ | ⟨h1, h2, h3, h4, h⟩ | ⟨h1, h2, h3, h4, h5, h⟩ | ⟨h1, h2, h3, h4, h5, h⟩
    all_goals
      go_wp2_with fail
      go_meet
      exact ⟨by rw [Hm.out]; congr 1; symm; first | exact decide_eq_true (by omega) | exact decide_eq_false (by omega), rfl⟩
  case rest =>
  obtain ⟨rfl, hwc⟩ := hcut
  obtain rfl : w12 = wc := hwc.symm
  go_upto_if 170 with fail
  go_cut [11] (fun f wx => f = .int .i64 me ∧ wx = w12)
  case first =>
    as_aux_lemma =>
    have hm1 : me = if mb = true then 1 else 0 := by
      rw [Hmb.out, ← Hme.out, meetE]
      split <;> simp
    have Hm1 := hid hm1
    clear hm1
    rcases mb with _ | _
    · go_wp2_with fail
      go_meet
      exact ⟨by rw [Hm1.out]; rfl, rfl⟩
    · go_wp2_with fail
      go_meet
      exact ⟨by rw [Hm1.out]; rfl, rfl⟩
  case rest =>
  obtain ⟨rfl, hwc⟩ := hcut
  obtain rfl : w12 = wc := hwc.symm
  obtain ⟨mv, hmv⟩ : ∃ mv, errV me = mv := ⟨_, rfl⟩
  rw [hmv] at HM
  have Hmv := hid hmv
  obtain ⟨db, hdb⟩ : ∃ db, decide (me = 0 ∧ n < r + v) = db := ⟨_, rfl⟩
  rw [hdb] at HM
  have Hdb := hid hdb
  clear hmv hdb
  go_wp2_with fail
  refine HM.out.mono ?_
  rintro e w13 ⟨rfl, hb13⟩
  have Hb13 := hid (Below.step Hb12.out hb13 hz12)
  have hE := Hee.out me w13 Hb13.out
  rw [Hmv.out, beq_self_eq_true] at hE
  have HE := hid hE
  clear hb13 hE HM
  go_upto_region 34 with fail
  go_cut [29] (fun t wx => t = .bool true ∧ Below w.heap.size w wx)
  case first =>
    as_aux_lemma =>
    by_cases hme : me = 0
    · have hbb : (me == 0) = true := by rw [beq_iff_eq]; exact hme
      have hbd : 0 ≤ r ∧ r ≤ 6 ∧ 0 ≤ v ∧ v ≤ 6 := by
        have := Hme.out
        unfold meetE at this
        split at this <;> omega
      obtain ⟨hb0, hb1, hb2, hb3⟩ := hbd
      by_cases hlt : n < r + v
      · have hd := Hdb.out
        rw [decide_eq_true ⟨hme, hlt⟩] at hd
        obtain rfl : true = db := hd
        clear hme
        go_wp2_with fail
        refine HE.out.mono ?_
        rintro e w14 ⟨rfl, hb14⟩
        have Hb14 := hid (Below.step Hb13.out hb14 Hb13.out.size)
        clear hb14
        go_wp2_with fail
        go_meet
        exact ⟨by first | rfl | (congr 1; simp; omega), Hb14.out⟩
      · have hd := Hdb.out
        rw [decide_eq_false (fun h => hlt h.2)] at hd
        obtain rfl : false = db := hd
        clear hme
        go_wp2_with fail
        refine HE.out.mono ?_
        rintro e w14 ⟨rfl, hb14⟩
        have Hb14 := hid (Below.step Hb13.out hb14 Hb13.out.size)
        clear hb14
        go_wp2_with fail
        go_meet
        exact ⟨by first | rfl | (congr 1; simp; omega), Hb14.out⟩
    · have hbb : (me == 0) = false := by rw [beq_eq_false_iff_ne]; exact hme
      have hd := Hdb.out
      rw [decide_eq_false (fun h => hme h.1)] at hd
      obtain rfl : false = db := hd
      clear hme
      go_wp2_with fail
      refine HE.out.mono ?_
      rintro e w14 ⟨rfl, hb14⟩
      have Hb14 := hid (Below.step Hb13.out hb14 Hb13.out.size)
      clear hb14
      go_wp2_with fail
      go_meet
      exact ⟨rfl, Hb14.out⟩
  case rest =>
  obtain ⟨rfl, hb14⟩ := hcut
  go_wp2_with fail
  go_ret
  exact ⟨rfl, hb14⟩

set_option maxRecDepth 100000 in
theorem repairTells_walk : LawWalk Tryd.prog 5 Tryd.f5 Gl := by
  intro W base args H enc ds p hval hA hgl
  rw [Tryd.params5] at hA hval
  obtain ⟨v0, v1, v2, v3, v4, d0, d1, d2, d3, d4, p0, p1, p2, p3, p4, rfl, rfl, rfl, h0, h1, h2, h3, h4⟩ := trodAll_fiveM hA
  obtain ⟨s, rfl, hs⟩ := arg_slice Tryd.underlying51 codecEntries (pos_of_eq Tryd.cellsEntries (by decide)) (hval 0 51 v0 rfl rfl) h0
  obtain ⟨k, rfl, _⟩ := arg_int Tryd.underlying3 (hval 1 3 v1 rfl rfl) h1
  obtain ⟨n, rfl, _⟩ := arg_int Tryd.underlying3 (hval 2 3 v2 rfl rfl) h2
  obtain ⟨r, rfl, _⟩ := arg_int Tryd.underlying3 (hval 3 3 v3 rfl rfl) h3
  obtain ⟨m, rfl, _⟩ := arg_int Tryd.underlying3 (hval 4 3 v4 rfl rfl) h4
  exact repairTells_any s k n r m W (cachesAt_cod hs) hgl

set_option maxRecDepth 100000 in
theorem repairTells_lifted (os : Os) (started : os.Started) (H : Type) (enc : TypeId × Value → H) :
    ReturnsInHanded {} Tryd.checked os 5 .any (fun w args => (Rows.repairTellsSpec.pre enc Tryd.checked.prog Tryd.f5 [] false w args ∧ laidMetH Tryd.prog theLaid w) ∧ sizedMet enc Tryd.checked.prog Tryd.f5 (OpenSpec.ofChange Rows.repairTellsSpec) false w args) (Rows.repairTellsSpec.post enc Tryd.checked.prog Tryd.f5 false true false false) :=
  laid_lifted (C := Tryd.checked) theLaid (fun _ h => handle_of_laid h) [] Tryd.own started (by kernel_rfl) Tryd.func5 Tryd.laidOut (by kernel_rfl) rfl Tryd.underlying4 rfl (fun ds h => by match ds, h with | [_, _, _, _, _], _ => rfl)
    (ChangeSpec.witness_at (enc := enc) (C := Tryd.checked) (os := os) (X := fun w _ => laidMetH Tryd.prog theLaid w) false (laidWorld os) #[.slice none 0 0, .int .i64 0, .int .i64 0, .int .i64 0, .int .i64 0] 8 rfl (by kernel_rfl) (by kernel_rfl) (by kernel_rfl) (by kernel_rfl) (by kernel_rfl) (laidWorld_met os _)) repairTells_walk

theorem repairTells_row : Rows.RepairTellsSaid :=
  OpenClaim.holds_of_wide 5 Tryd.f5 rfl rfl rfl rfl rfl rfl rfl ⟨rfl, rfl, rfl, rfl, rfl⟩ rfl rfl rfl rfl rfl (by kernel_rfl) Tryd.func5 (by kernel_rfl)
    (of_decide_eq_true (by kernel_rfl)) (by unfold Func.isWrapper; rw [if_neg (of_decide_eq_false (by kernel_rfl))]; exact ⟨rfl, rfl⟩)
    (fun os started H enc _ => repairTells_lifted os started H enc)

theorem repairTells_holds : Rows.RepairTellsCardSaid :=
  Claim7.holds_tied_plain_at .later [] [.handle] true _ true
    repairTells_row (fun _ h => by cases h) (by kernel_rfl) (fun _ h => by cases h) repairTells_row_tie rfl ⟨rfl, rfl⟩ (by kernel_rfl) rfl
    (fun f fn hf hfn => by
      obtain rfl : f = 5 := Option.some.inj ((show Tryd.prog.funcNamed "beaconmere/merelaw2.RepairTells" = some 5 by kernel_rfl).symm.trans hf) |>.symm
      obtain rfl : fn = Tryd.f5 := (Option.some.inj (Tryd.func5.symm.trans hfn)).symm
      refine ⟨by kernel_rfl, fun j t ht => ?_⟩
      have hall : Tryd.f5.params.toList.all (fun t => !Tryd.prog.wantsStandIn t) = true := by kernel_rfl
      have hm : t ∈ Tryd.f5.params.toList := by
        obtain ⟨hj, hje⟩ := Array.getElem?_eq_some_iff.1 ht
        rw [← hje]
        exact Array.mem_toList_iff.2 (Array.getElem_mem hj)
      have := List.all_eq_true.1 hall t hm
      exact (show Tryd.prog.wantsStandIn t = false by simpa using this))
    (by kernel_rfl)

end Go.Proofs.YtdocdmpfokdjkaaDoor
