/-
  PROVED HERE: meretop.TopMail returns true: what a mesh's nodes were told is sent by mail, lost, doubled or given in any order, and what came is a valid cache of what the mesh says. CONDITIONS: none.
-/
import Derived.Test.YtlcbdhblaamekaaTopOne
import Derived.Test.YtlcbdhblaamekaaTMail
import Derived.Test.YtlcbdhblaamekaaRtm15
import Derived.Test.YtlcbdhblaamekaaRtm17
import Derived.Test.YtlcbdhblaamekaaRtm20
import Derived.Test.YtlcbdhblaamekaaRtm38
import Derived.Deep.CutBlock
import Derived.Deep.DeepCutAuto
import Derived.Deep.QuietTactic
import Derived.BigQuiet
namespace Go.Proofs.Ytlcbdhblaamekaa
open Go.RowKit
open Go.ChangeShapes Go.WideShapes Go.ChangeAt

set_option maxHeartbeats 16000000 in
set_option maxRecDepth 100000 in
theorem topMail_any (n : Int) (st : SlV (SlV Int)) (tx : SlV ByteArray) (cm : SlV (SlV Int)) (w : World) (hst : IntssAt w st) (htx : StrsAt w tx) (hcm : IntssAt w cm) :
    Calls Try.prog 3 #[.int .i64 n, .slice st.A st.xs.length st.c, .slice tx.A tx.xs.length tx.c, .slice cm.A cm.xs.length cm.c] w fun e w' => e = .returned (.bool true) ∧ Below w.heap.size w w' := by
  have hlen := hst.len
  have hlent := htx.len
  have hlenc := hcm.len
  unfold maxLen at hlen hlent hlenc
  go_enter Try.func3, Try.ntmps3
  go_wp2_with fail
  refine (topone_any _).mono ?_
  rintro e w1 ⟨rfl, hb1⟩
  have Hb1 := hid hb1
  have hz1 := hb1.size
  clear hb1
  by_cases hn : n < 1 ∨ 6 < n
  · have HB := hid (mnew_bad n w1 hn)
    clear hn
    go_wp2_with fail
    refine HB.out.mono ?_
    rintro e w2 ⟨rfl, hb2⟩
    have Hb2 := hid (Below.step Hb1.out hb2 hz1)
    clear hb2
    go_wp2_with fail
    go_ret
    exact ⟨rfl, Hb2.out⟩
  obtain ⟨N, rfl⟩ := Int.eq_ofNat_of_zero_le (show 0 ≤ n by omega)
  have HNw := hid (mnew_ok N w1 (by omega) (by omega))
  clear hn
  go_wp2_with fail
  refine HNw.out.mono ?_
  rintro e w2 ⟨vm, rfl, hNr⟩
  obtain ⟨m, rfl, hM, hb2⟩ := hNr.meshW
  have Hb2 := hid (Below.step Hb1.out hb2 hz1)
  have hz2 := hb2.size
  have HM2 := hid hM
  clear hM hb2 hNr HNw
  go_wp2_with fail
  refine (mnew_any _).mono ?_
  rintro e w3 ⟨rfl, hO3, hb3⟩
  have HT3 := hid (show TM w1.heap.size w2.heap.size m [] (List.replicate N []) [] w3 from ⟨_, hO3, (HM2.out.avoid hb3).less (fun i hi => hi.imp (fun h => h) (fun h => hO3.fml h)), fun y hy => by cases hy⟩)
  have Hb3 := hid (Below.step Hb2.out hb3 Hb2.out.size)
  have hz3 : w1.heap.size ≤ w3.heap.size := by have := hb3.size; omega
  have hw2 : w.heap.size ≤ w2.heap.size := Hb2.out.size
  clear hO3 hb3 HM2
  go_upto_block 0 with fail
  go_cut [] (fun wx => ∃ (D : List E) (C : List (List E)) (L : List Lt), TM w1.heap.size w2.heap.size m D C L wx ∧ Below w.heap.size w wx)
  case first =>
    as_aux_lemma =>
    go_wp2_with fail
    go_loopw [13] (fun i wr => ∃ (k : Nat) (D : List E) (C : List (List E)) (L : List Lt), k ≤ 30 ∧ i = .int .i64 k ∧ TM w1.heap.size w2.heap.size m D C L wr ∧ Below w.heap.size w wr ∧ w1.heap.size ≤ wr.heap.size) (fun i _ => 30 - (intOf i).toNat)
    case atStart => exact ⟨0, [], _, [], by omega, rfl, HT3.out, Hb3.out, hz3⟩
    case round =>
      obtain ⟨n, D, C, L, hn, rfl, hT, hbr, hz1r⟩ := hrel
      clear HT3
      by_cases hcond : n < st.xs.length ∧ n < 30
      · obtain ⟨hn1, hn2⟩ := hcond
        obtain ⟨wd, rfl⟩ : ∃ wd : World, wd = wr := ⟨_, rfl⟩
        have Hbd := hid hbr
        have HT := hid hT
        clear hbr hT
        obtain ⟨b, off, hA, -⟩ := hst.row (by omega)
        rw [hA]
        have HAst := hid hA
        clear hA
        go_upto_if 50 with fail
        go_cut [14] (fun t wx => (∃ x : ByteArray, x.size ≤ maxLen ∧ t = .string x) ∧ wx = wd)
        case first =>
          by_cases hnt : n < tx.xs.length
          · obtain ⟨b2, off2, hA2, hb2, hc2⟩ := htx.row (by omega)
            have hx := (Hbd.out.cell (p := ⟨b2, off2 + n, none⟩) hb2).trans (hc2 n hnt)
            have hxg := htx.each _ (List.getElem_mem hnt)
            have Hxg := hid hxg
            generalize tx.xs[n] = x at *
            have HA2 := hid hA2
            rw [hA2]
            clear hA2 hc2 hxg
            go_wp2_with fail
            rw [← HA2.out]
            go_meet
            exact ⟨⟨x, Hxg.out, rfl⟩, rfl⟩
          · have hnt' : ¬ ((n : Int) < (tx.xs.length : Int)) := by omega
            go_wp2_with fail
            go_meet
            exact ⟨⟨ByteArray.mk #[], Nat.zero_le _, rfl⟩, rfl⟩
        case rest =>
        obtain ⟨⟨tt, htt, rfl⟩, hwc⟩ := hcut
        obtain rfl : wd = wc := hwc.symm
        have Htt := hid htt
        clear htt
        by_cases h2 : st.xs[n].xs.length = 2
        · obtain ⟨b2, off2, c, x0, x1, hbb, hbb2, hRow⟩ := rowTwo hst HAst.out hn1 h2
          have HRow := hid hRow
          obtain ⟨r0, r1, r2⟩ := hRow wd Hbd.out
          clear h2 hRow
          obtain ⟨v, hO, hM, hL⟩ := HT.out
          obtain ⟨A, hA⟩ : ∃ A : Nat → Prop, A = (fun i => i < w1.heap.size ∨ FM (w2.heap.size + 1) w2.heap.size v i) := ⟨_, rfl⟩
          have hAlt : ∀ i, A i → i < wd.heap.size := fun i hi => by
            rw [hA] at hi
            rcases hi with hi | hi
            · omega
            · exact (hO.fml hi).2
          have HA := hid hA
          have HAlt := hid hAlt
          have HO := hid hO
          have HL := hid hL
          rw [← hA] at hM
          have HPt := hid (fun W (hW : Below wd.heap.size wd W) => mputW x0 x1 tt Htt.out W (hM.belowS hW) (fun i hi => Nat.lt_of_lt_of_le (hAlt i hi) hW.size) (Nat.le_trans hz1r hW.size))
          have HTold := hid (fun h0 => put_told hM.deeds hM.cac (node := x0) (key := x1) (t := tt) h0)
          have HMore := hid (mdo_more (len := C.length) (node := x0) (rput_deed hM.deeds x1 tt))
          have H6 := hid hM.six
          generalize mdoR C.length D x0 (rput D x1 tt) = R at *
          obtain ⟨⟨e1, e2⟩, D2⟩ := R
          simp only at HPt HTold HMore
          obtain ⟨ev, hev⟩ : ∃ ev, errV e2 = ev := ⟨_, rfl⟩
          rw [hev] at HPt
          have Hev := hid hev
          clear hA hAlt hO hM hL hev
          go_upto_region 15 with fail
          go_cut [15, 16] (fun a b wx => a = .int .i64 e1 ∧ b = ev ∧ MeshW w1.heap.size wx m D2 (if e2 = 0 then learnC C x0.toNat x1 D2 else C) A ∧ Fr (MTouch w1.heap.size A) wd wx)
          case first =>
            refine tm15_all b off b2 off2 st.xs.length st.c c n x0 x1 wd (by have := Hbd.out.size; omega) (by have := Hbd.out.size; omega) (by omega) (by omega) r0 r1 r2 m tt (.int .i64 e1) ev (fun wx => MeshW w1.heap.size wx m D2 (if e2 = 0 then learnC C x0.toNat x1 D2 else C) A ∧ Fr (MTouch w1.heap.size A) wd wx) (hid fun W hW => (HPt.out W hW).mono fun e wn h => ⟨h.1, h.2.1, (Fr.ofB hW).step h.2.2⟩) _ _ _ _ _ _ _ _ _ _ _ _ _ _ _ _ _ _ _ _ _ _ _ _ _ _ _ _ _ _ _ _ _ _ _ _ _ _ _ _ _ _ _ _ _ _ _ _ _ _ _ _ _ _ _ _ _ _ _ _ _ _ _ _ _ _ _ _ _ _ _ _ _ _ _ _ _ _ _ _ _ _ _ _ _ _ _ _ _ _ _ _ _ _ _ _ _ _ _ _ _ _ _ _ _ _ _ _ _ _ _ _ _ _ _ _ _ _ _ _ _ _ _ _ _ _ _ _ _ _ _ _ _ _ _ _ _ _ _ _ _ _ _ _ _ _ _ _ _ _ _ _ _ _ _ _ _ _ _ _ _ _ _ _ _ _ _ _ _ _ _ _ _ _ _ _ _ _ _ _ _ _ _ _ _ _ _ _ _ _ _ _ _ _ _ _ _ _ _ _ _ _ _ _ _ _ _ _ _ _ _ _ _ _ _ _ _ _ _ _ _ _ _ _ _ _ _ ?_
            intro v61 v62 v63 v64 v65 v66 v67 v68 v69 v70 v71 v72 v73 v74 v75 v76 v77 v78 wx h
            have Hh := hid h
            clear h
            go_wp2_with fail
            go_meet
            exact ⟨rfl, rfl, Hh.out⟩
          case rest =>
          obtain ⟨rfl, hbe, hM6, hF6⟩ := hcut
          subst hbe
          obtain ⟨w6, rfl⟩ : ∃ w6 : World, w6 = wc := ⟨_, rfl⟩
          have hb6 := Hbd.out.trans (hF6.below0 Hbd.out.size (fun i hi => by have := hi.1; omega))
          have hz6 := hF6.size
          have HF6 := hid hF6
          have Hb6 := hid hb6
          have HM6 := hid hM6
          clear hM6 hF6 hb6 HPt r0 r1 r2
          by_cases h0 : e2 = 0
          · obtain ⟨⟨n0, n1⟩, -, hD2, hget⟩ := HTold.out h0
            have hM6 := HM6.out
            have hev := Hev.out
            rw [if_pos h0] at hM6
            rw [h0, errV_zero] at hev
            subst hev
            rw [← hD2] at hget
            clear HM6 HTold Hev hD2 h0
            generalize learnC C x0.toNat x1 D2 = C2 at *
            have hTr := (mget_good hM6 (node := x0) (key := x1) (fl := D2.length) (by rw [hget])).2.2.2.2
            rw [hget] at hTr
            generalize (D.length : Int) + 1 = q at *
            have HTr := hid hTr
            have HSq := hid (fun W (hW : Below w6.heap.size w6 W) => mseqW W (hM6.belowS hW))
            have HGt := hid (fun W (hW : Below w6.heap.size w6 W) => mgetB x0 x1 D2.length _ W (hM6.belowS hW) hget)
            simp only at HGt
            obtain ⟨r0, r1, r2⟩ := HRow.out w6 Hb6.out
            have HM7 := hid (fun W (hW : Below w6.heap.size w6 W) => hM6.belowS hW)
            clear hget hM6 hTr
            go_upto_region 17 with fail
            go_cut [17, 18, 16] (fun p u e wx => BoxR w6 #[.int .i64 x1, .int .i64 q, .int .i64 q, .bool false, .string tt] p wx ∧ u = .bool true ∧ e = .nilIface)
            case first =>
              refine tm17_all b off b2 off2 st.xs.length st.c c n x0 x1 w6 (by have := Hb6.out.size; omega) (by have := Hb6.out.size; omega) (by omega) (by omega) r0 r1 r2 m D2.length x1 q q false tt HSq HGt _ _ _ _ _ _ _ _ _ _ _ _ _ _ _ _ _ _ _ _ _ _ _ _ _ _ _ _ _ _ _ _ _ _ _ _ _ _ _ _ _ _ _ _ _ _ _ _ _ _ _ _ _ _ _ _ _ _ _ _ _ _ _ _ _ _ _ _ _ _ _ _ _ _ _ _ _ _ _ _ _ _ _ _ _ _ _ _ _ _ _ _ _ _ _ _ _ _ _ _ _ _ _ _ _ _ _ _ _ _ _ _ _ _ _ _ _ _ _ _ _ _ _ _ _ _ _ _ _ _ _ _ _ _ _ _ _ _ _ _ _ _ _ _ _ _ _ _ _ _ _ _ _ _ _ _ _ _ _ _ _ _ _ _ _ _ _ _ _ _ _ _ _ _ _ _ _ _ _ _ _ _ _ _ _ _ _ _ _ _ _ _ _ _ _ _ _ _ _ _ _ _ _ _ _ _ _ _ _ _ _ _ _ _ _ _ _ _ _ _ _ _ _ _ _ _ _ _ ?_
              intro v81 v82 v83 v84 v85 v86 v87 v88 v89 v90 v91 v92 v93 v94 v95 v96 v97 v98 v99 v100 v17 wx h
              have Hh := hid h
              clear h
              go_wp2_with fail
              go_meet
              exact ⟨Hh.out, rfl, rfl⟩
            case rest =>
            obtain ⟨⟨g, rfl, hg7, hB7, hb67⟩, rfl, rfl⟩ := hcut
            obtain ⟨w7, rfl⟩ : ∃ w7 : World, w7 = wc := ⟨_, rfl⟩
            have hb7 := Below.step Hb6.out hb67 Hb6.out.size
            have hM7 := HM7.out w7 hb67
            have hF67 := HF6.out.step (Fr.ofB hb67)
            rw [HA.out] at hM7 hF67
            have HT7 := hid (TM.mesh HO.out HL.out hM7 hF67 HMore.out)
            have Hb7 := hid hb7
            have hz7 := hb67.size
            have c0 : w7.cell? ⟨g, 0, none⟩ = some (.int .i64 x1) := hB7.cell 0
            have c1 : w7.cell? ⟨g, 1, none⟩ = some (.int .i64 q) := hB7.cell 1
            have c2 : w7.cell? ⟨g, 2, none⟩ = some (.int .i64 q) := hB7.cell 2
            have c3 : w7.cell? ⟨g, 3, none⟩ = some (.bool false) := hB7.cell 3
            have c4 : w7.cell? ⟨g, 4, none⟩ = some (.string tt) := hB7.cell 4
            have hlg := hB7.lt
            have HSd := hid (fun (W : World) (hW : Below w7.heap.size w7 W) => (tsend_any x0 ((x0 + 1) % 6) ⟨n0, by have := H6.out; omega⟩ (by omega) ⟨x1, q, q, false, tt⟩ (HT7.out.belowS hW) HTr.out).mono fun e w' h => (⟨h.1, h.2.1, h.2.2.2 w hw2 (Below.step Hb7.out hW Hb7.out.size), by have := h.2.2.1; have := hW.size; omega⟩ : (∃ z, e = .returned z) ∧ (∃ L', TM w1.heap.size w2.heap.size m D2 C2 L' w') ∧ Below w.heap.size w w' ∧ w7.heap.size ≤ w'.heap.size))
            simp only at HSd
            obtain ⟨r0, r1, r2⟩ := HRow.out w7 Hb7.out
            clear hM7 hF67 hb7 hb67 hB7 HGt HSq HM7
            go_upto_region 20 with fail
            refine tm20_all b off b2 off2 st.xs.length st.c c n x0 x1 w7 (by have := Hb7.out.size; omega) (by have := Hb7.out.size; omega) (by omega) (by omega) r0 r1 r2 (w2.heap.size + 1) g ((x0 + 1) % 6) x1 q q false tt (fun wx => (∃ L', TM w1.heap.size w2.heap.size m D2 C2 L' wx) ∧ Below w.heap.size w wx ∧ w7.heap.size ≤ wx.heap.size) n0 (by have := H6.out; omega) rfl c0 c1 c2 c3 c4 HSd _ _ _ _ _ _ _ _ _ _ _ _ _ _ _ _ _ _ _ _ _ _ _ _ _ _ _ _ _ _ _ _ _ _ _ _ _ _ _ _ _ _ _ _ _ _ _ _ _ _ _ _ _ _ _ _ _ _ _ _ _ _ _ _ _ _ _ _ _ _ _ _ _ _ _ _ _ _ _ _ _ _ _ _ _ _ _ _ _ _ _ _ _ _ _ _ _ _ _ _ _ _ _ _ _ _ _ _ _ _ _ _ _ _ _ _ _ _ _ _ _ _ _ _ _ _ _ _ _ _ _ _ _ _ _ _ _ _ _ _ _ _ _ _ _ _ _ _ _ _ _ _ _ _ _ _ _ _ _ _ _ _ _ _ _ _ _ _ _ _ _ _ _ _ _ _ _ _ _ _ _ _ _ _ _ _ _ _ _ _ _ _ _ _ _ _ _ _ _ _ _ _ _ _ _ _ _ _ _ _ _ _ _ _ _ _ _ _ _ _ _ _ _ _ _ _ _ ?_
            intro v109 v110 v111 v112 v113 v114 v115 v116 v117 v118 v119 v120 v121 v122 v123 v124 v125 v126 wx h
            obtain ⟨⟨L', hT8⟩, hb8, hz8⟩ := h
            obtain ⟨w8, rfl⟩ : ∃ w8 : World, w8 = wx := ⟨_, rfl⟩
            have HT8 := hid hT8
            have Hb8 := hid hb8
            clear hT8 hb8 r0 r1 r2 c0 c1 c2 c3 c4
            go_wp2_with fail
            go_roundw
            case rel => exact ⟨n + 1, D2, C2, L', by omega, by go_num, HT8.out, Hb8.out, by omega⟩
            case measure => simp [intOf]; omega
          · have hev := Hev.out
            rw [errV_ne h0] at hev
            subst hev
            have HT7 := hid (TM.mesh HO.out HL.out (by rw [← HA.out]; exact HM6.out) (by rw [← HA.out]; exact HF6.out) HMore.out)
            clear h0
            go_wp2_with fail
            go_roundw
            case rel => exact ⟨n + 1, D2, _, L, by omega, by go_num, HT7.out, Hb6.out, by omega⟩
            case measure => simp [intOf]; omega
        · obtain ⟨A, k, c, hk, hRow⟩ := rowNot hst HAst.out hn1 h2
          have r0 := hRow wd Hbd.out
          clear h2 hRow
          go_wp2_with fail
          go_roundw
          case rel => exact ⟨n + 1, D, C, L, by omega, by go_num, HT.out, Hbd.out, hz1r⟩
          case measure => simp [intOf]; omega
      · have hcc : (¬ (n : Int) < (st.xs.length : Int)) ∨ ((n : Int) < (st.xs.length : Int) ∧ ¬ (n : Int) < 30) := by omega
        have HT := hid hT
        have Hbr := hid hbr
        clear hT hbr hcond
        rcases hcc with h | ⟨h1, h2⟩
        · go_wp2_with fail
          go_meet
          exact ⟨D, C, L, HT.out, Hbr.out⟩
        · go_wp2_with fail
          go_meet
          exact ⟨D, C, L, HT.out, Hbr.out⟩
  case rest =>
  obtain ⟨D, C, L, hT, hbr⟩ := hcut
  obtain ⟨w4, rfl⟩ : ∃ w4 : World, w4 = wc := ⟨_, rfl⟩
  have HT4 := hid (show TL w1.heap.size w2.heap.size m D C L ⟨none, 0, []⟩ w4 from hT.tl)
  have Hb4 := hid hbr
  clear hT hbr HT3
  go_upto_block 2 with fail
  go_cut [19] (fun l wx => ∃ (x : SlV E) (L : List Lt), l = .slice x.A x.xs.length x.c ∧ TL w1.heap.size w2.heap.size m D C L x wx ∧ Below w.heap.size w wx)
  case first =>
    as_aux_lemma =>
    go_wp2_with fail
    go_loopw [19, 20] (fun l i wr => ∃ (k : Nat) (x : SlV E) (L : List Lt), k ≤ 60 ∧ i = .int .i64 k ∧ l = .slice x.A x.xs.length x.c ∧ TL w1.heap.size w2.heap.size m D C L x wr ∧ Below w.heap.size w wr) (fun _ i _ => 60 - (intOf i).toNat)
    case atStart => exact ⟨0, ⟨none, 0, []⟩, L, by omega, rfl, rfl, HT4.out, Hb4.out⟩
    case round =>
      obtain ⟨n, x, L, hn, rfl, rfl, hT, hbr⟩ := hrel
      clear HT4
      have HT := hid hT
      have Hbd := hid hbr
      have hln := hT.es.len
      unfold maxLen at hln
      clear hT hbr
      by_cases hcond : n < cm.xs.length ∧ n < 60
      · obtain ⟨hn1, hn2⟩ := hcond
        obtain ⟨wd, rfl⟩ : ∃ wd : World, wd = wr := ⟨_, rfl⟩
        obtain ⟨b, off, hA, -⟩ := hcm.row (by omega)
        rw [hA]
        have HAst := hid hA
        clear hA
        by_cases h2 : cm.xs[n].xs.length = 2
        · obtain ⟨b2, off2, c, x0, x1, hbb, hbb2, hRow⟩ := rowTwo hcm HAst.out hn1 h2
          obtain ⟨r0, r1, r2⟩ := hRow wd Hbd.out
          clear h2 hRow
          rcases (show x0 = 0 ∨ x0 = 1 ∨ (¬ x0 = 0 ∧ ¬ x0 = 1) by omega) with h | h | ⟨h, h'⟩
          · have b0 : (x0 == 0) = true := by rw [beq_iff_eq]; exact h
            clear h
            go_wp2_with fail
            refine (tlose_any x1 HT.out).mono ?_
            rintro e w6 ⟨⟨z, rfl⟩, ⟨L', hT6⟩, hB⟩
            have Hb6 := hid (hB w hw2 Hbd.out)
            have HT6 := hid hT6
            clear hB hT6 r0 r1 r2
            go_wp2_with fail
            go_roundw
            case rel => exact ⟨n + 1, x, L', by omega, by go_num, rfl, HT6.out, Hb6.out⟩
            case measure => simp [intOf]; omega
          · have b0 : (x0 == 0) = false := by rw [beq_eq_false_iff_ne]; omega
            have b1 : (x0 == 1) = true := by rw [beq_iff_eq]; exact h
            clear h
            go_wp2_with fail
            refine (ttwice_any x1 HT.out).mono ?_
            rintro e w6 ⟨⟨z, rfl⟩, ⟨L', hT6⟩, hB⟩
            have Hb6 := hid (hB w hw2 Hbd.out)
            have HT6 := hid hT6
            clear hB hT6 r0 r1 r2
            go_wp2_with fail
            go_roundw
            case rel => exact ⟨n + 1, x, L', by omega, by go_num, rfl, HT6.out, Hb6.out⟩
            case measure => simp [intOf]; omega
          · have b0 : (x0 == 0) = false := by rw [beq_eq_false_iff_ne]; exact h
            have b1 : (x0 == 1) = false := by rw [beq_eq_false_iff_ne]; exact h'
            clear h h'
            go_wp2_with fail
            refine (tgive_any x1 HT.out).mono ?_
            rintro e w6 ⟨⟨y0, y1, y2, y3, y4, y5, y6, en, rfl, hen⟩, ⟨L', hT6⟩, hB⟩
            have hb6 := hB w hw2 Hbd.out
            have Hb6 := hid hb6
            have hz6 := hb6.size
            have HT6 := hid hT6
            clear hB hT6 r0 r1 r2 hb6
            by_cases he : en = 0
            · have HTr := hid (hen he)
              rw [he, errV_zero]
              clear hen he
              go_upto_region 32 with fail
              obtain ⟨w7, hw7⟩ : ∃ W : World, W = w6.alloc (.cells #[.int .i64 y0, .int .i64 y1, .int .i64 y2, .int .i64 y3, .int .i64 y4, .bool y5, .string y6] 42) := ⟨_, rfl⟩
              rw [← hw7]
              have hB7 : Blk w7 w6.heap.size 42 #[.int .i64 y0, .int .i64 y1, .int .i64 y2, .int .i64 y3, .int .i64 y4, .bool y5, .string y6] := by rw [hw7]; exact Blk.new _ _ _
              have HT7 := hid (show TL w1.heap.size w2.heap.size m D C L' x w7 by rw [hw7]; exact HT6.out.belowS ((Below.refl _ _).alloc (Nat.le_refl _) _))
              have Hb7 := hid (show Below w.heap.size w w7 by rw [hw7]; exact Hb6.out.alloc hz6 _)
              have c2 : w7.cell? ⟨w6.heap.size, 2, none⟩ = some (.int .i64 y2) := hB7.cell 2
              have c3 : w7.cell? ⟨w6.heap.size, 3, none⟩ = some (.int .i64 y3) := hB7.cell 3
              have c4 : w7.cell? ⟨w6.heap.size, 4, none⟩ = some (.int .i64 y4) := hB7.cell 4
              have c5 : w7.cell? ⟨w6.heap.size, 5, none⟩ = some (.bool y5) := hB7.cell 5
              have c6 : w7.cell? ⟨w6.heap.size, 6, none⟩ = some (.string y6) := hB7.cell 6
              have hl7 := hB7.lt
              have HAd := hid (tadd_any ⟨y2, y3, y4, y5, y6⟩ HT7.out HTr.out)
              simp only at HAd
              clear hw7 hB7
              go_wp2_with fail
              refine HAd.out.mono ?_
              rintro e w8 ⟨x', u, rfl, hT8, hb8⟩
              have HT8 := hid hT8
              have Hb8 := hid (Below.step Hb7.out hb8 Hb7.out.size)
              clear hT8 hb8 HAd c2 c3 c4 c5 c6
              go_wp2_with fail
              go_roundw
              case rel => exact ⟨n + 1, x', L', by omega, by go_num, rfl, HT8.out, Hb8.out⟩
              case measure => simp [intOf]; omega
            · rw [errV_ne he]
              clear hen he
              go_wp2_with fail
              go_roundw
              case rel => exact ⟨n + 1, x, L', by omega, by go_num, rfl, HT6.out.belowS ((Below.refl _ _).alloc (Nat.le_refl _) _), Hb6.out.alloc hz6 _⟩
              case measure => simp [intOf]; omega
        · obtain ⟨A, k, c, hk, hRow⟩ := rowNot hcm HAst.out hn1 h2
          have r0 := hRow wd Hbd.out
          clear h2 hRow
          go_wp2_with fail
          go_roundw
          case rel => exact ⟨n + 1, x, L, by omega, by go_num, rfl, HT.out, Hbd.out⟩
          case measure => simp [intOf]; omega
      · have hcc : (¬ (n : Int) < (cm.xs.length : Int)) ∨ ((n : Int) < (cm.xs.length : Int) ∧ ¬ (n : Int) < 60) := by omega
        clear hcond
        rcases hcc with h | ⟨h1, h2⟩
        · go_wp2_with fail
          go_meet
          exact ⟨x, L, rfl, HT.out, Hbd.out⟩
        · go_wp2_with fail
          go_meet
          exact ⟨x, L, rfl, HT.out, Hbd.out⟩
  case rest =>
  obtain ⟨x, L2, rfl, hT, hbr⟩ := hcut
  obtain ⟨w5, rfl⟩ : ∃ w5 : World, w5 = wc := ⟨_, rfl⟩
  obtain ⟨A, hM⟩ := hT.meshW
  have HM5 := hid (fun W (hW : Below w5.heap.size w5 W) => hM.belowS hW)
  have HE5 := hid (fun W (hW : Below w5.heap.size w5 W) => hT.es.stays hW)
  have HCd := hid hT.cac
  have hln := hT.es.len
  unfold maxLen at hln
  have Hb5 := hid hbr
  have hz5 := hbr.size
  clear hT hM hbr HT4
  go_wp2_with fail
  go_loopw [23] (fun i wr => ∃ j : Nat, j ≤ x.xs.length ∧ i = .int .i64 j ∧ Below w5.heap.size w5 wr) (fun i _ => x.xs.length - (intOf i).toNat)
  case atStart => exact ⟨0, Nat.zero_le _, rfl, Below.refl _ _⟩
  case round =>
    obtain ⟨j, hj, rfl, hbk⟩ := hrel
    obtain ⟨wk, rfl⟩ : ∃ wk : World, wk = wr := ⟨_, rfl⟩
    have Hbk := hid hbk
    have hzk := hbk.size
    by_cases hlj : j < x.xs.length
    · obtain ⟨g, off, hA, hgl, hcells⟩ := (HE5.out wk hbk).row (by omega)
      obtain ⟨k0, k1, k2, k3, k4⟩ := hcells j hlj
      have htr := HCd.out.2 _ (getD_memD E.zero hlj)
      generalize x.xs.getD j E.zero = y at *
      obtain ⟨z0, z1, z2, z3, z4⟩ := y
      simp only at k0 k1 k2 k3 k4
      have hat := htr.at_
      simp only at hat
      have HAt := hid (fun W (hW : Below wk.heap.size wk W) => matW z0 z2 W (HM5.out W (Below.step hbk hW hzk)))
      rw [hat] at HAt
      simp only [E.val, errV_zero] at HAt
      rw [hA]
      clear hA hcells htr hat hbk
      go_upto_region 38 with fail
      go_cut [24, 25] (fun p e wx => BoxR wk #[.int .i64 z0, .int .i64 z1, .int .i64 z2, .bool z3, .string z4] p wx ∧ e = .nilIface)
      case first =>
        refine tm38_all g off x.xs.length x.c j m z0 z1 z2 z3 z4 wk hgl (by omega) (by omega) k0 k2 HAt _ _ _ _ _ _ _ _ _ _ _ _ _ _ _ _ _ _ _ _ _ _ _ _ _ _ _ _ _ _ _ _ _ _ _ _ _ _ _ _ _ _ _ _ _ _ _ _ _ _ _ _ _ _ _ _ _ _ _ _ _ _ _ _ _ _ _ _ _ _ _ _ _ _ _ _ _ _ _ _ _ _ _ _ _ _ _ _ _ _ _ _ _ _ _ _ _ _ _ _ _ _ _ _ _ _ _ _ _ _ _ _ _ _ _ _ _ _ _ _ _ _ _ _ _ _ _ _ _ _ _ _ _ _ _ _ _ _ _ _ _ _ _ _ _ _ _ _ _ _ _ _ _ _ _ _ _ _ _ _ _ _ _ _ _ _ _ _ _ _ _ _ _ _ _ _ _ _ _ _ _ _ _ _ _ _ _ _ _ _ _ _ _ _ _ _ _ _ _ _ _ _ _ _ _ _ _ _ _ _ _ _ _ _ _ _ _ _ _ _ _ _ _ _ _ _ _ _ ?_
        intro v202 v203 v204 v205 v206 v207 v208 v209 v210 v211 v212 v213 v214 v215 v216 v24 wx h
        have Hh := hid h
        clear h
        go_wp2_with fail
        go_meet
        exact ⟨Hh.out, rfl⟩
      case rest =>
      obtain ⟨⟨g2, rfl, -, hB6, hb6⟩, rfl⟩ := hcut
      obtain ⟨w6, rfl⟩ : ∃ w6 : World, w6 = wc := ⟨_, rfl⟩
      have Hb6 := hid (Below.step Hbk.out hb6 hzk)
      have hz6 := hb6.size
      have hg6 : g < w6.heap.size := by omega
      have hl6 := hB6.lt
      have k0 := (hb6.cell (p := ⟨g, _, none⟩) hgl).trans k0
      have k1 := (hb6.cell (p := ⟨g, _, none⟩) hgl).trans k1
      have k2 := (hb6.cell (p := ⟨g, _, none⟩) hgl).trans k2
      have k3 := (hb6.cell (p := ⟨g, _, none⟩) hgl).trans k3
      have k4 := (hb6.cell (p := ⟨g, _, none⟩) hgl).trans k4
      have c0 : w6.cell? ⟨g2, 0, none⟩ = some (.int .i64 z0) := hB6.cell 0
      have c1 : w6.cell? ⟨g2, 1, none⟩ = some (.int .i64 z1) := hB6.cell 1
      have c2 : w6.cell? ⟨g2, 2, none⟩ = some (.int .i64 z2) := hB6.cell 2
      have c3 : w6.cell? ⟨g2, 3, none⟩ = some (.bool z3) := hB6.cell 3
      have c4 : w6.cell? ⟨g2, 4, none⟩ = some (.string z4) := hB6.cell 4
      have heq := fun W => eqRunE z0 z1 z2 z3 z4 z0 z1 z2 z3 z4 W
      rw [eqbE_refl] at heq
      have hjl : (j : Int) < (x.xs.length : Int) := by omega
      clear hB6 hb6 HAt
      go_wp2_with fail
      go_quiet (fail)
      go_wp2_with fail
      go_roundw
      case rel => exact ⟨j + 1, by omega, by go_num, Below.manyDrew Hb6.out _⟩
      case measure => simp [intOf]; omega
    · have HCk := hid (ccheck_any x wk (HE5.out wk hbk).entries)
      rw [HCd.out.1, errV_zero] at HCk
      clear hbk
      go_wp2_with fail
      refine HCk.out.mono ?_
      rintro e w9 ⟨rfl, hb9⟩
      have Hb9 := hid (Below.step Hbk.out hb9 hzk)
      clear hb9
      go_wp2_with fail
      go_ret
      exact ⟨rfl, Below.step Hb5.out Hb9.out hz5⟩

set_option maxRecDepth 100000 in
theorem topMail_walk : LawWalk Try.prog 3 Try.f3 (fun _ => True) := by
  intro W base args H enc ds p hval hA _
  rw [Try.params3] at hA hval
  obtain ⟨v0, v1, v2, v3, d0, d1, d2, d3, p0, p1, p2, p3, rfl, rfl, rfl, h0, h1, h2, h3⟩ := trodAll_fourT hA
  obtain ⟨n, rfl, _⟩ := arg_int Try.underlying3 (hval 0 3 v0 rfl rfl) h0
  obtain ⟨st, rfl, hst⟩ := arg_slice Try.underlying22 codecInts (pos_of_eq Try.cellsInts (by decide)) (hval 1 22 v1 rfl rfl) h1
  obtain ⟨tx, rfl, htx⟩ := arg_slice Try.underlying23 (Codec.str Try.underlying9) (pos_of_eq Try.cellsStr (by decide)) (hval 2 23 v2 rfl rfl) h2
  obtain ⟨cm, rfl, hcm⟩ := arg_slice Try.underlying22 codecInts (pos_of_eq Try.cellsInts (by decide)) (hval 3 22 v3 rfl rfl) h3
  exact topMail_any n st tx cm W (intssAt_of hst) (strsAt_of htx) (intssAt_of hcm)

set_option maxRecDepth 100000 in
theorem topMail_lifted (os : Os) (started : os.Started) (H : Type) (enc : TypeId × Value → H) :
    ReturnsInHanded {} Try.checked os 3 .any (Rows.topMailSpec.pre6 enc Try.prog Try.f3 Rows.topMailRow.domain false) (Rows.topMailSpec.post enc Try.prog Try.f3 false true false false) :=
  law_lifted (C := Try.checked) Rows.topMailRow.domain Try.own started (by kernel_rfl) Try.func3 Try.laidOut (by kernel_rfl) rfl Try.underlying4 rfl (fun ds h => by match ds, h with | [_, _, _, _], _ => rfl)
    (ChangeSpec.witness6 (enc := enc) (C := Try.checked) false ⟨#[], #[.int .i64 0, .slice none 0 0, .slice none 0 0, .slice none 0 0], []⟩ 8 (by kernel_rfl) (by kernel_rfl) (by kernel_rfl) (by kernel_rfl)) topMail_walk

theorem topMail_holds : Rows.TopMailSaid :=
  OpenClaim.holds_of_wide 3 Try.f3 rfl rfl rfl rfl rfl rfl rfl ⟨rfl, rfl, rfl, rfl, rfl⟩ rfl rfl rfl rfl rfl (by kernel_rfl) Try.func3 (by kernel_rfl)
    (of_decide_eq_true (by kernel_rfl)) (by unfold Func.isWrapper; rw [if_neg (of_decide_eq_false (by kernel_rfl))]; exact ⟨rfl, rfl⟩)
    (fun os started H enc _ => topMail_lifted os started H enc)

end Go.Proofs.Ytlcbdhblaamekaa
