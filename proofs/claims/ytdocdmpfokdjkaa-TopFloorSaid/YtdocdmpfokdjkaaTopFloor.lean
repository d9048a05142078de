/-
  PROVED HERE: meretop.TopFloor returns true: what a mesh tells of a node's cache by a key's floor may be told by it, and of all caches' entries those that may not are just those that are stale. CONDITIONS: none.
-/
import Derived.Test.YtdocdmpfokdjkaaTopOne
import Derived.Test.YtdocdmpfokdjkaaFloorLaw
import Derived.Test.YtdocdmpfokdjkaaStale
import Derived.Deep.CutBlock
import Derived.Deep.DeepCutAuto
namespace Go.Proofs.Ytdocdmpfokdjkaa
open Go.RowKit
open Go.ChangeShapes Go.WideShapes Go.ChangeAt

/-- floors in their bounds -/
def FsOk (fs : List Int) : Prop := fs.length = 8 ∧ ∀ j, 0 ≤ fs.getD j 0 ∧ fs.getD j 0 ≤ 1000
theorem FsOk.raise {fs : List Int} (h : FsOk fs) (k s : Int) : FsOk (raiseL fs k s) := by
  refine ⟨by rw [raiseL_length, h.1], fun j => ?_⟩
  rcases ho : okB k s with _ | _
  · rw [raiseL, ho, if_neg (by decide)]
    exact h.2 j
  · rw [raiseL_get h.1 ho]
    have hs : 0 ≤ s ∧ s ≤ 1000 := by
      unfold okB at ho
      rw [Bool.and_eq_true] at ho
      exact seqB_true.1 ho.2
    split
    · have := h.2 k.toNat
      omega
    · exact h.2 j
theorem FsOk.all {fs : List Int} (h : FsOk fs) (s : Int) : ∀ n, FsOk (allL fs s n)
  | 0 => h
  | n + 1 => (FsOk.all h s n).raise n s
theorem FsOk.zero : FsOk (List.replicate 8 0) := ⟨rfl, fun j => by
  rw [List.getD_eq_getElem?_getD, List.getElem?_replicate]
  split <;> simp⟩
theorem one_val {e : E} (h : chk e = 0) : chkC [e] = 0 := val_iff.2 ⟨by unfold Asc; simp, fun x hx => by rw [List.mem_singleton.1 hx]; exact h⟩
/-- one is stale just if it may not be told -/
theorem stale_one {e : E} {f : Int} (h : chk e = 0) (hf : 0 ≤ f ∧ f ≤ 1000) : staleR [e] f = (if e.asof < f then [e.key] else [], 0) := by
  rw [staleR, if_pos (seqB_true.2 hf), if_pos (one_val h)]
  unfold staleL
  by_cases hlt : e.asof < f
  · simp [hlt]
  · simp [hlt]

set_option maxHeartbeats 16000000 in
set_option maxRecDepth 100000 in
theorem topFloor_any (n : Int) (st : SlV (SlV Int)) (tx : SlV ByteArray) (seq : Int) (w : World) (hst : IntssAt w st) (htx : StrsAt w tx) :
    Calls Try.prog 4 #[.int .i64 n, .slice st.A st.xs.length st.c, .slice tx.A tx.xs.length tx.c, .int .i64 seq] w fun e w' => e = .returned (.bool true) ∧ Below w.heap.size w w' := by
  have hlen := hst.len
  have hlent := htx.len
  unfold maxLen at hlen hlent
  go_enter Try.func4, Try.ntmps4
  go_wp2_with fail
  refine (one_any _).mono ?_
  rintro e w1 ⟨rfl, hb1⟩
  have Hb1 := hid hb1
  have hz1 := hb1.size
  clear hb1
  by_cases hn : n < 1 ∨ 6 < n
  · have HB := hid (mnew_bad n w1 hn)
    clear hn
    go_wp2_with fail
    refine HB.out.mono ?_
    rintro e w2 ⟨rfl, hb2⟩
    have Hb2 := hid (Below.step Hb1.out hb2 hz1)
    clear hb2
    go_wp2_with fail
    go_ret
    exact ⟨rfl, Hb2.out⟩
  obtain ⟨N, rfl⟩ := Int.eq_ofNat_of_zero_le (show 0 ≤ n by omega)
  have HNw := hid (mnew_ok N w1 (by omega) (by omega))
  have hN1 : ¬ (N : Int) < 1 := by omega
  have hN6 : ¬ (6 : Int) < (N : Int) := by omega
  clear hn
  go_wp2_with fail
  refine HNw.out.mono ?_
  rintro e w2 ⟨vm, rfl, hNr⟩
  obtain ⟨m, rfl, hM, hb2⟩ := hNr.meshW
  have Hb2 := hid (Below.step Hb1.out hb2 hz1)
  have hz2 := hb2.size
  have HM2 := hid hM
  clear hM hb2 hNr HNw
  go_wp2_with fail
  refine (new_floor _).mono ?_
  rintro e w3 ⟨rfl, hF3, hb3⟩
  have hl3 := hF3.lt
  have HF3 := hid hF3
  have HM3 := hid ((HM2.out.avoid hb3).less (A' := fun i => i < w1.heap.size ∨ i = w2.heap.size) (fun i hi => hi.imp (fun h => h) (fun h => by omega)))
  have Hb3 := hid (Below.step Hb2.out hb3 Hb2.out.size)
  have hb12 : w1.heap.size ≤ w2.heap.size := hz2
  clear hF3 hb3 HM2
  go_upto_block 0 with fail
  go_cut [] (fun wx => ∃ (D : List E) (C : List (List E)) (fs : List Int), C.length = N ∧ FsOk fs ∧ Blk wx w2.heap.size 78 (ints fs) ∧ MeshW w1.heap.size wx m D C (fun i => i < w1.heap.size ∨ i = w2.heap.size) ∧ Below w.heap.size w wx)
  case first =>
    as_aux_lemma =>
    go_wp2_with fail
    go_loopw [13] (fun i wr => ∃ (k : Nat) (D : List E) (C : List (List E)) (fs : List Int), k ≤ 30 ∧ i = .int .i64 k ∧ C.length = N ∧ FsOk fs ∧ Blk wr w2.heap.size 78 (ints fs) ∧ MeshW w1.heap.size wr m D C (fun i => i < w1.heap.size ∨ i = w2.heap.size) ∧ Below w.heap.size w wr ∧ w1.heap.size ≤ wr.heap.size) (fun i _ => 30 - (intOf i).toNat)
    case atStart => exact ⟨0, [], List.replicate N [], List.replicate 8 0, by omega, rfl, List.length_replicate, FsOk.zero, HF3.out, HM3.out, Hb3.out, by omega⟩
    case round =>
      obtain ⟨n, D, C, fs, hn, rfl, hCl, hfs, hFr, hM, hbr, hz1r⟩ := hrel
      clear HF3 HM3
      have Hfs := hid hfs
      have HCl := hid hCl
      by_cases hcond : n < st.xs.length ∧ n < 30
      · obtain ⟨hn1, hn2⟩ := hcond
        obtain ⟨b, off, hA, hb, hcells⟩ := hst.row (by omega)
        have hcell := hcells n hn1
        have hin := hst.each n hn1
        rw [← hbr.cell (p := ⟨b, off + n, none⟩) hb] at hcell
        have HA := hid hA
        rw [hA]
        generalize hrw : st.xs[n] = rw_ at *
        clear hcells hA hrw hCl hfs
        obtain ⟨wo, rfl⟩ : ∃ wo : World, wo = wr := ⟨_, rfl⟩
        have hzr := hbr.size
        have hVlt : w.heap.size < wo.heap.size := by have := hFr.lt; have := Hb2.out.size; omega
        go_upto_block 2 with fail
        go_cut [] (fun wx => ∃ vs : List Int, vs.length = 3 ∧ Blk wx wo.heap.size 40 (ints vs) ∧ Fr (fun x => x = wo.heap.size) (wo.alloc (.cells (ints [0, 0, 0]) 40)) wx)
        case first =>
          have hV0 : Blk (wo.alloc (.cells (ints [0, 0, 0]) 40)) wo.heap.size 40 (ints [0, 0, 0]) := Blk.new _ _ _
          go_wp2_with fail
          go_loopw [15] (fun j w2 => ∃ (m : Nat) (vs : List Int), m ≤ 3 ∧ m ≤ rw_.xs.length ∧ j = .int .i64 m ∧ vs.length = 3 ∧ Blk w2 wo.heap.size 40 (ints vs) ∧ Fr (fun x => x = wo.heap.size) (wo.alloc (.cells (ints [0, 0, 0]) 40)) w2)
            (fun j _ => 3 - (intOf j).toNat)
          case atStart => exact ⟨0, [0, 0, 0], by omega, by omega, rfl, rfl, hV0, Fr.refl _ _⟩
          case round =>
            obtain ⟨m, vs, hm3, hml, rfl, hvl, hVb, hVf⟩ := hrel
            have hcell2 := (hVf.cell (p := ⟨b, off + n, none⟩) (by simp; omega) (by simp; omega)).trans ((World.cell?_alloc_lt wo _ ⟨b, off + n, none⟩ (by simp; omega)).trans hcell)
            by_cases hm1 : m < rw_.xs.length
            · by_cases hm2 : m < 3
              · obtain ⟨b2, off2, hA2, hb2, hcells2⟩ := hin.row (by omega)
                have hx := hcells2 m hm1
                have hx2 := (hVf.cell (p := ⟨b2, off2 + m, none⟩) (by simp; omega) (by simp; omega)).trans ((World.cell?_alloc_lt wo _ ⟨b2, off2 + m, none⟩ (by simp; omega)).trans ((hbr.cell (p := ⟨b2, off2 + m, none⟩) hb2).trans hx))
                rw [hA2] at hcell2
                generalize rw_.xs.getD m 0 = x at *
                have hv : _ = some (Value.int .i64 (vs.getD m 0)) := (hVb.cell m).trans (ints_get vs m (by omega))
                have hvf := hVb.frozen m
                have hVb' := hVb.put m (.int .i64 x)
                rw [ints_set] at hVb'
                have hVf' := Fr.setCell (S := fun x => x = wo.heap.size) hVf (p := ⟨wo.heap.size, m, none⟩) (.inl rfl) (.int .i64 x)
                have HV := hid (And.intro hVb' hVf')
                clear hcells2 hA2 hx hVb' hVf'
                go_wp2_with fail
                go_roundw
                case rel => exact ⟨m + 1, _, by omega, by omega, by go_num, by simpa using hvl, HV.out.1, HV.out.2⟩
                case measure => simp [intOf]; omega
              · go_wp2_with fail
                go_meet
                exact ⟨vs, hvl, hVb, hVf⟩
            · go_wp2_with fail
              go_meet
              exact ⟨vs, hvl, hVb, hVf⟩
        case rest =>
          obtain ⟨vs, hvl, hVb, hVf⟩ := hcut
          obtain ⟨x0, x1, x2, rfl⟩ : ∃ x0 x1 x2, vs = [x0, x1, x2] := by
            match vs, hvl with
            | [x0, x1, x2], _ => exact ⟨x0, x1, x2, rfl⟩
          obtain ⟨wd, rfl⟩ : ∃ wd : World, wd = wc := ⟨_, rfl⟩
          have cv0 : wd.cell? ⟨wo.heap.size, 0, none⟩ = some (.int .i64 x0) := hVb.cell 0
          have cv1 : wd.cell? ⟨wo.heap.size, 1, none⟩ = some (.int .i64 x1) := hVb.cell 1
          have cv2 : wd.cell? ⟨wo.heap.size, 2, none⟩ = some (.int .i64 x2) := hVb.cell 2
          have hbo : Below wo.heap.size wo wd := ((Below.refl _ _).alloc (Nat.le_refl _) _).trans (hVf.below (by simp) (fun i hi e => by omega))
          have hzo := hbo.size
          have Hbd := hid (Below.step hbr hbo hzr)
          have HFd := hid (hFr.belowS hbo)
          have HMd := hid (hM.belowS hbo)
          have hlF := HFd.out.lt
          have hlV := hVb.lt
          have hzd : w1.heap.size ≤ wd.heap.size := by omega
          clear hVf hcell hin hFr hM hbr hbo hVb
          go_upto_if 88 with fail
          go_cut [16] (fun t wx => (∃ x : ByteArray, x.size ≤ maxLen ∧ t = .string x) ∧ wx = wd)
          case first =>
            by_cases hnt : n < tx.xs.length
            · obtain ⟨b2, off2, hA2, hb2, hc2⟩ := htx.row (by omega)
              have hx := (Hbd.out.cell (p := ⟨b2, off2 + n, none⟩) hb2).trans (hc2 n hnt)
              have hxg := htx.each _ (List.getElem_mem hnt)
              have Hxg := hid hxg
              generalize tx.xs[n] = x at *
              have HA2 := hid hA2
              rw [hA2]
              clear hA2 hc2 hxg
              go_wp2_with fail
              rw [← HA2.out]
              go_meet
              exact ⟨⟨x, Hxg.out, rfl⟩, rfl⟩
            · have hnt' : ¬ ((n : Int) < (tx.xs.length : Int)) := by omega
              go_wp2_with fail
              go_meet
              exact ⟨⟨ByteArray.mk #[], Nat.zero_le _, rfl⟩, rfl⟩
          case rest =>
          obtain ⟨⟨tt, htt, rfl⟩, hwc⟩ := hcut
          obtain rfl : wd = wc := hwc.symm
          have hAd : ∀ i, (i < w1.heap.size ∨ i = w2.heap.size) → i < wd.heap.size := fun i hi => by
            rcases hi with hi | hi <;> omega
          have HAd := hid hAd
          have Htt := hid htt
          clear hAd htt
          rcases (show x0 = 0 ∨ x0 = 1 ∨ (¬ x0 = 0 ∧ ¬ x0 = 1) by omega) with h | h | ⟨h, h'⟩
          · have b0 : (x0 == 0) = true := by rw [beq_iff_eq]; exact h
            have HSq := hid (fun W (hW : Below wd.heap.size wd W) => mseqW W (HMd.out.belowS hW))
            have HRs := hid (fun W (hW : Below wd.heap.size wd W) => raise_any w2.heap.size fs Hfs.out.1 x2 D.length W (HFd.out.belowS hW))
            clear h
            go_upto_region 20 with fail
            go_cut [] (fun wx => Blk wx w2.heap.size 78 (ints (raiseL fs x2 D.length)) ∧ Fr (· = w2.heap.size) wd wx)
            case first =>
              go_region_law (first | (go_simp; go_at_call 13; refine (HSq.out _ (Below.manyDrew (Below.refl _ _) 1)).mono ?_; rintro e wn ⟨rfl, rfl⟩) | (go_simp; go_at_call 12; refine (HRs.out _ (Below.manyDrew (Below.refl _ _) 1)).mono ?_; rintro e wn ⟨rfl, hBn, hFn⟩; have hFn2 : Fr (· = w2.heap.size) wd wn := (Fr.ofB (Below.manyDrew (Below.refl _ _) 1)).step hFn))
              all_goals
                go_wp2_with fail
                go_meet
                exact ⟨hBn, hFn2⟩
            case rest =>
            obtain ⟨hB6, hF6⟩ := hcut
            have HM6 := hid (HMd.out.fr hF6 (fun i hi => .inr hi))
            have hb6 := Hbd.out.trans (hF6.below0 Hbd.out.size (fun i hi => by rw [hi]; have := Hb2.out.size; omega))
            have HB6 := hid hB6
            have Hb6 := hid hb6
            have hz6 := hF6.size
            obtain ⟨w6, rfl⟩ : ∃ w6 : World, w6 = wc := ⟨_, rfl⟩
            clear hB6 hF6 hb6
            go_wp2_with fail
            go_roundw
            case rel => exact ⟨n + 1, D, C, _, by omega, by go_num, HCl.out, Hfs.out.raise _ _, HB6.out, HM6.out, Hb6.out, by omega⟩
            case measure => simp [intOf]; omega
          · have b0 : (x0 == 0) = false := by rw [beq_eq_false_iff_ne]; omega
            have b1 : (x0 == 1) = true := by rw [beq_iff_eq]; exact h
            have HPt := hid (mputW x1 x2 tt Htt.out wd HMd.out HAd.out hzd)
            clear h
            go_wp2_with fail
            refine HPt.out.mono ?_
            rintro e w6 ⟨rfl, hM6, hF6⟩
            have HB6 := hid (HFd.out.fr hF6 (fun h => h.2 (.inr rfl)))
            have hb6 := Hbd.out.trans (hF6.below0 Hbd.out.size (fun i hi => by have := hi.1; omega))
            have Hb6 := hid hb6
            have hz6 := hF6.size
            have HM6 := hid hM6
            have hl6 : (if (mdoR C.length D x1 (rput D x2 tt)).1.2 = 0 then learnC C x1.toNat x2 (mdoR C.length D x1 (rput D x2 tt)).2 else C).length = C.length := by
              split
              · unfold learnC; rw [List.length_set]
              · rfl
            have Hl6 := hid hl6
            clear hM6 hF6 hb6 hl6 HPt
            generalize mdoR C.length D x1 (rput D x2 tt) = R at *
            obtain ⟨⟨r1, r2⟩, D2⟩ := R
            go_wp2_with fail
            go_roundw
            case rel => exact ⟨n + 1, D2, _, fs, by omega, by go_num, Hl6.out.trans HCl.out, Hfs.out, HB6.out, HM6.out, Hb6.out, by omega⟩
            case measure => simp [intOf]; omega
          · have b0 : (x0 == 0) = false := by rw [beq_eq_false_iff_ne]; exact h
            have b1 : (x0 == 1) = false := by rw [beq_eq_false_iff_ne]; exact h'
            have HOf := hid (of_any w2.heap.size fs Hfs.out.1 x2 wd HFd.out)
            clear h h'
            rcases hkb : keyB x2 with _ | _
            · rw [hkb, if_neg (by decide), if_neg (by decide), errV_ne (show (1 : Int) ≠ 0 by decide)] at HOf
              clear hkb
              go_wp2_with fail
              refine HOf.out.mono ?_
              rintro e wn ⟨rfl, rfl⟩
              go_wp2_with fail
              go_roundw
              case rel => exact ⟨n + 1, D, C, fs, by omega, by go_num, HCl.out, Hfs.out, HFd.out, HMd.out, Hbd.out, hzd⟩
              case measure => simp [intOf]; omega
            · rw [hkb, if_pos rfl, if_pos rfl, errV_zero] at HOf
              have HGt := hid (mgetW x1 x2 (fs.getD x2.toNat 0) wd HMd.out HAd.out hzd)
              have HGood := hid (fun h0 => mget_good HMd.out (node := x1) (key := x2) (fl := fs.getD x2.toNat 0) h0)
              have hl6 : (mgetR D C x1 x2 (fs.getD x2.toNat 0)).2.length = C.length := by
                unfold mgetR
                split
                · split
                  · split
                    · rfl
                    · unfold learnC; rw [List.length_set]
                  · unfold learnC; rw [List.length_set]
                · rfl
              have Hl6 := hid hl6
              obtain ⟨fk, hfk⟩ : ∃ fk, fs.getD x2.toNat 0 = fk := ⟨_, rfl⟩
              rw [hfk] at HOf HGt HGood Hl6
              have Hfk := hid hfk
              generalize mgetR D C x1 x2 fk = R at *
              obtain ⟨⟨⟨y0, y1, y2, y3, y4⟩, ub, en⟩, C2⟩ := R
              simp only [E.val] at HGt HGood Hl6
              clear hkb hl6 hfk
              go_wp2_with fail
              refine HOf.out.mono ?_
              rintro e wn ⟨rfl, rfl⟩
              by_cases hen : en = 0
              · subst hen
                obtain ⟨g1, g2, g3, -, -⟩ := HGood.out rfl
                (try simp only at g2 g3)
                subst g2
                have HMy := hid (fun W (hW : Blk W w2.heap.size 78 (ints fs)) => show Calls Try.prog 17 #[.pointer (some ⟨w2.heap.size, 0, none⟩), .agg #[.int .i64 y0, .int .i64 y1, .int .i64 y2, .bool y3, .string y4]] W fun e w' => e = .returned (.tuple #[.bool true, .nilIface]) ∧ Below W.heap.size W w' from by
                  have := may_any w2.heap.size fs Hfs.out.1 y0 y1 y2 y3 y4 (by have h12 := (chk_zero.1 g1).2.2.2.2.1; simp only at h12; unfold maxLen; omega) W hW
                  rw [g1, if_pos rfl, Hfk.out, decide_eq_true g3, errV_zero] at this
                  exact this)
                rw [errV_zero] at HGt
                clear g1 g3 HGood
                go_wp2_with fail
                refine HGt.out.mono ?_
                rintro e w6 ⟨rfl, hM6, hF6⟩
                have hB6 := HFd.out.fr hF6 (fun h => h.2 (.inr rfl))
                have hb6 := Hbd.out.trans (hF6.below0 Hbd.out.size (fun i hi => by have := hi.1; omega))
                have hz6 := hF6.size
                go_upto_region 26 with fail
                obtain ⟨w7, hw7⟩ : ∃ W : World, W = w6.alloc (.cells #[.int .i64 y0, .int .i64 y1, .int .i64 y2, .bool y3, .string y4] 47) := ⟨_, rfl⟩
                rw [← hw7]
                have hY7 : Blk w7 w6.heap.size 47 #[.int .i64 y0, .int .i64 y1, .int .i64 y2, .bool y3, .string y4] := by rw [hw7]; exact Blk.new _ _ _
                have HB7 := hid (show Blk w7 w2.heap.size 78 (ints fs) by rw [hw7]; exact hB6.alloc _)
                have HM7 := hid (show MeshW w1.heap.size w7 m D C2 (fun i => i < w1.heap.size ∨ i = w2.heap.size) by rw [hw7]; exact hM6.belowS ((Below.refl _ _).alloc (Nat.le_refl _) _))
                have Hb7 := hid (show Below w.heap.size w w7 by rw [hw7]; exact hb6.alloc hb6.size _)
                have hz7 : w6.heap.size < w7.heap.size := hY7.lt
                have c0 : w7.cell? ⟨w6.heap.size, 0, none⟩ = some (.int .i64 y0) := hY7.cell 0
                have c1 : w7.cell? ⟨w6.heap.size, 1, none⟩ = some (.int .i64 y1) := hY7.cell 1
                have c2 : w7.cell? ⟨w6.heap.size, 2, none⟩ = some (.int .i64 y2) := hY7.cell 2
                have c3 : w7.cell? ⟨w6.heap.size, 3, none⟩ = some (.bool y3) := hY7.cell 3
                have c4 : w7.cell? ⟨w6.heap.size, 4, none⟩ = some (.string y4) := hY7.cell 4
                have HMy7 := hid (HMy.out w7 HB7.out)
                have hzd7 : w1.heap.size ≤ w7.heap.size := by omega
                clear hw7 hY7 hM6 hF6 hB6 hb6 HGt HMy
                go_wp2_with fail
                refine HMy7.out.mono ?_
                rintro e w8 ⟨rfl, hb8⟩
                have HB8 := hid (HB7.out.belowS hb8)
                have HM8 := hid (HM7.out.belowS hb8)
                have Hb8 := hid (Below.step Hb7.out hb8 Hb7.out.size)
                have hz8 := hb8.size
                clear hb8 c0 c1 c2 c3 c4 HMy7
                go_wp2_with fail
                go_roundw
                case rel => exact ⟨n + 1, D, C2, fs, by omega, by go_num, Hl6.out.trans HCl.out, Hfs.out, HB8.out, HM8.out, Hb8.out, by omega⟩
                case measure => simp [intOf]; omega
              · rw [errV_ne hen] at HGt
                clear HGood hen
                go_wp2_with fail
                refine HGt.out.mono ?_
                rintro e w6 ⟨rfl, hM6, hF6⟩
                have HB6 := hid (HFd.out.fr hF6 (fun h => h.2 (.inr rfl)))
                have Hb6 := hid (Hbd.out.trans (hF6.below0 Hbd.out.size (fun i hi => by have := hi.1; omega)))
                have hz6 := hF6.size
                have HM6 := hid hM6
                have hz6w := Hb6.out.size
                clear hM6 hF6 HGt
                go_wp2_with fail
                go_roundw
                case rel => exact ⟨n + 1, D, C2, fs, by omega, by go_num, Hl6.out.trans HCl.out, Hfs.out, HB6.out.alloc _, HM6.out.belowS ((Below.refl _ _).alloc (Nat.le_refl _) _), Hb6.out.alloc hz6w _, by rw [World.size_alloc]; omega⟩
                case measure => simp [intOf]; omega
      · have hcc : (¬ (n : Int) < (st.xs.length : Int)) ∨ ((n : Int) < (st.xs.length : Int) ∧ ¬ (n : Int) < 30) := by omega
        have HFr := hid hFr
        have HM := hid hM
        have Hbr := hid hbr
        clear hFr hM hbr hcond hCl hfs
        rcases hcc with h | ⟨h1, h2⟩
        · go_wp2_with fail
          go_meet
          exact ⟨D, C, fs, HCl.out, Hfs.out, HFr.out, HM.out, Hbr.out⟩
        · go_wp2_with fail
          go_meet
          exact ⟨D, C, fs, HCl.out, Hfs.out, HFr.out, HM.out, Hbr.out⟩
  case rest =>
  obtain ⟨D, C, fs, hCl, hfs, hFr, hM, hbr⟩ := hcut
  obtain ⟨w4, rfl⟩ : ∃ w4 : World, w4 = wc := ⟨_, rfl⟩
  have HAl := hid (all_any w2.heap.size fs hfs.1 seq w4 hFr)
  have HM4 := hid hM
  have Hb4 := hid hbr
  have hz4 := hbr.size
  have HCl := hid hCl
  have Hfs := hid hfs
  have hw2 : w.heap.size ≤ w2.heap.size := Hb2.out.size
  clear hCl hfs hFr hM hbr HF3 HM3
  rcases hsq : seqB seq with _ | _
  · rw [hsq, if_neg (by decide), if_neg (by decide), errV_ne (show (1 : Int) ≠ 0 by decide)] at HAl
    have hs2 := seqB_false.1 hsq
    rcases (show seq < 0 ∨ (¬ seq < 0 ∧ 1000 < seq) by omega) with h | ⟨h1, h⟩
    all_goals
      clear hsq hs2
      go_wp2_with fail
      refine HAl.out.mono ?_
      rintro e w5 ⟨rfl, -, hF5⟩
      have Hb5 := hid (Hb4.out.trans (hF5.below0 hz4 (fun i hi => by rw [hi]; exact hw2)))
      clear hF5
      go_wp2_with fail
      go_ret
      exact ⟨ret_b (by first | rfl | (simp; omega)), Hb5.out⟩
  rw [hsq, if_pos rfl, if_pos rfl, errV_zero] at HAl
  have hgs := Hfs.out.all seq 8
  generalize allL fs seq 8 = gs at *
  have Hgs := hid hgs
  clear hsq hgs
  go_wp2_with fail
  refine HAl.out.mono ?_
  rintro e w5 ⟨rfl, hB5, hF5⟩
  have Hb5 := hid (Hb4.out.trans (hF5.below0 hz4 (fun i hi => by rw [hi]; exact hw2)))
  have HB5 := hid (fun W (hW : Below w5.heap.size w5 W) => hB5.belowS hW)
  have HM5 := hid (fun W (hW : Below w5.heap.size w5 W) => (HM4.out.fr hF5 (fun i hi => .inr hi)).belowS hW)
  have hz5 := Hb5.out.size
  clear hB5 hF5 HAl HM4
  go_wp2_with fail
  go_loopw [22] (fun i wr => ∃ c : Nat, c ≤ N ∧ i = .int .i64 c ∧ Below w5.heap.size w5 wr) (fun i _ => N - (intOf i).toNat)
  case atStart => exact ⟨0, Nat.zero_le _, rfl, Below.refl _ _⟩
  case round =>
    obtain ⟨c, hc, rfl, hbr⟩ := hrel
    have Hbr := hid hbr
    have hz5r := hbr.size
    by_cases hlt : c < N
    · have hltc : (c : Int) < (N : Int) := by omega
      have hMr := HM5.out wr hbr
      have HCa := hid (mcacheW (c : Int) wr hMr)
      have hmem : C.getD c [] ∈ C := getD_memD [] (by rw [HCl.out]; exact hlt)
      have hcd := hMr.cac _ hmem
      have hdd := hMr.deeds
      rw [show inM C.length (c : Int) = true from inM_true.2 ⟨by omega, by rw [HCl.out]; omega⟩, if_pos rfl, if_pos rfl, errV_zero, Int.toNat_natCast] at HCa
      have Hchk := hid (show ∀ e ∈ C.getD c [], chk e = 0 from fun e he => (hcd.2 e he).chk hdd)
      generalize C.getD c [] = L at *
      clear hMr hcd hdd hmem hbr
      go_wp2_with fail
      refine HCa.out.mono ?_
      rintro e w6 ⟨⟨y, rfl, hyx, hy⟩, hb6⟩
      have Hb56 := hid (Below.step Hbr.out hb6 hz5r)
      have HyA := hid (fun W (hW : Below w6.heap.size w6 W) => hy.es.stays hW)
      have hyl := hy.es.len
      unfold maxLen at hyl
      subst hyx
      clear hy hb6 HCa
      go_wp2_with fail
      go_loopw [25] (fun i wk => ∃ j : Nat, j ≤ y.xs.length ∧ i = .int .i64 j ∧ Below w6.heap.size w6 wk) (fun i _ => y.xs.length - (intOf i).toNat)
      case atStart => exact ⟨0, Nat.zero_le _, rfl, Below.refl _ _⟩
      case round =>
        obtain ⟨j, hj, rfl, hbk⟩ := hrel
        obtain ⟨wk, rfl⟩ : ∃ wk : World, wk = wr := ⟨_, rfl⟩
        have Hbk := hid hbk
        by_cases hlj : j < y.xs.length
        · have hE := HyA.out wk hbk
          obtain ⟨g, off, hA, hgl, hcells⟩ := hE.row (by omega)
          obtain ⟨k0, k1, k2, k3, k4⟩ := hcells j hlj
          have hch := Hchk.out _ (getD_memD E.zero hlj)
          generalize y.xs.getD j E.zero = x at *
          obtain ⟨z0, z1, z2, z3, z4⟩ := x
          simp only at k0 k1 k2 k3 k4
          obtain ⟨q0, -, -, -, q4, -⟩ := chk_zero.1 hch
          (try simp only at q0 q4)
          have h5k := Below.step Hb56.out hbk Hb56.out.size
          have HOf := hid (of_any w2.heap.size gs Hgs.out.1 z0 wk (HB5.out wk h5k))
          rw [q0, if_pos rfl, if_pos rfl, errV_zero] at HOf
          have HMy := hid (may_any w2.heap.size gs Hgs.out.1 z0 z1 z2 z3 z4 (by unfold maxLen; omega) wk (HB5.out wk h5k))
          rw [hch, if_pos rfl, errV_zero] at HMy
          have hfr := Hgs.out.2 z0.toNat
          generalize gs.getD z0.toNat 0 = fk at *
          have Hch := hid hch
          have HgE := hid (chk_goodE hch)
          have HA := hid hA
          rw [hA]
          clear hA hcells hE hch q0 q4 hbk h5k
          go_wp2_with fail
          refine HOf.out.mono ?_
          rintro e wn ⟨rfl, rfl⟩
          go_wp2_with fail
          refine HMy.out.mono ?_
          rintro e w7 ⟨rfl, hb7⟩
          have Hb67 := hid (Below.step Hbk.out hb7 Hbk.out.size)
          have hz7 := hb7.size
          have hg7 : g < w7.heap.size := by omega
          have k0 := (hb7.cell (p := ⟨g, _, none⟩) hgl).trans k0
          have k1 := (hb7.cell (p := ⟨g, _, none⟩) hgl).trans k1
          have k2 := (hb7.cell (p := ⟨g, _, none⟩) hgl).trans k2
          have k3 := (hb7.cell (p := ⟨g, _, none⟩) hgl).trans k3
          have k4 := (hb7.cell (p := ⟨g, _, none⟩) hgl).trans k4
          have HE8 := hid (show EntriesAt (w7.alloc (.cells #[.int .i64 z0, .int .i64 z1, .int .i64 z2, .bool z3, .string z4] 47)) ⟨some ⟨w7.heap.size, 0, none⟩, 1, [⟨z0, z1, z2, z3, z4⟩]⟩ from EsAt.entries ⟨fun _ => ⟨w7.heap.size, 0, rfl, by simp, fun i hi => by
            obtain rfl : i = 0 := by simpa using hi
            exact EAt.of_blk (Blk.new w7 _ _)⟩, fun y hy => by rw [List.mem_singleton.1 hy]; exact HgE.out, by unfold maxLen; simp⟩)
          have hz67 := Hb67.out.size
          have HS8 := hid (show ∀ len : Nat, len = (if z2 < fk then 1 else 0) → Calls Try.prog 20 #[.slice (some ⟨w7.heap.size, 0, none⟩) 1 1, .int .i64 fk] (w7.alloc (.cells #[.int .i64 z0, .int .i64 z1, .int .i64 z2, .bool z3, .string z4] 47)) fun e w' => (∃ A c, e = .returned (.tuple #[.slice A len c, .nilIface])) ∧ Below w6.heap.size w6 w' from fun len hl => by
            have h8 := stale_any ⟨some ⟨w7.heap.size, 0, none⟩, 1, [⟨z0, z1, z2, z3, z4⟩]⟩ fk _ HE8.out
            rw [stale_one Hch.out hfr] at h8
            refine h8.mono ?_
            rintro e w' ⟨v9, rfl, hO9, hb9⟩
            obtain ⟨A9, c9, hv9, -, -, -⟩ := hO9.form
            refine ⟨⟨A9, c9, ?_⟩, Below.step (Hb67.out.alloc hz67 _) hb9 (by simp; omega)⟩
            rw [hv9, errV_zero, hl]
            simp only
            split <;> rfl)
          clear hb7 HOf HMy
          by_cases hst2 : z2 < fk
          · have HS1 := hid (HS8.out 1 (by rw [if_pos hst2]))
            have hd : decide (fk ≤ z2) = false := decide_eq_false (by omega)
            rw [hd]
            clear HS8 hst2 hd
            go_wp2_with fail
            refine HS1.out.mono ?_
            rintro e w9 ⟨⟨A9, c9, rfl⟩, hb9⟩
            have Hb9 := hid hb9
            clear hb9
            go_wp2_with fail
            go_roundw
            case rel => exact ⟨j + 1, by omega, by go_num, Hb9.out⟩
            case measure => simp [intOf]; omega
          · have HS1 := hid (HS8.out 0 (by rw [if_neg hst2]))
            have hd : decide (fk ≤ z2) = true := decide_eq_true (by omega)
            rw [hd]
            clear HS8 hst2 hd
            go_wp2_with fail
            refine HS1.out.mono ?_
            rintro e w9 ⟨⟨A9, c9, rfl⟩, hb9⟩
            have Hb9 := hid hb9
            clear hb9
            go_wp2_with fail
            go_roundw
            case rel => exact ⟨j + 1, by omega, by go_num, Hb9.out⟩
            case measure => simp [intOf]; omega
        · go_wp2_with fail
          go_roundw
          case rel => exact ⟨c + 1, by omega, by go_num, Below.step Hb56.out hbk Hb56.out.size⟩
          case measure => simp [intOf]; omega
    · go_wp2_with fail
      go_ret
      exact ⟨rfl, Below.step Hb5.out hbr hz5⟩

set_option maxRecDepth 100000 in
theorem topFloor_walk : LawWalk Try.prog 4 Try.f4 (fun _ => True) := by
  intro W base args H enc ds p hval hA _
  rw [Try.params4] at hA hval
  obtain ⟨v0, v1, v2, v3, d0, d1, d2, d3, p0, p1, p2, p3, rfl, rfl, rfl, h0, h1, h2, h3⟩ := trodAll_fourT hA
  obtain ⟨n, rfl, _⟩ := arg_int Try.underlying3 (hval 0 3 v0 rfl rfl) h0
  obtain ⟨st, rfl, hst⟩ := arg_slice Try.underlying22 codecInts (pos_of_eq Try.cellsInts (by decide)) (hval 1 22 v1 rfl rfl) h1
  obtain ⟨tx, rfl, htx⟩ := arg_slice Try.underlying33 (Codec.str Try.underlying9) (pos_of_eq Try.cellsStr (by decide)) (hval 2 33 v2 rfl rfl) h2
  obtain ⟨seq, rfl, _⟩ := arg_int Try.underlying3 (hval 3 3 v3 rfl rfl) h3
  exact topFloor_any n st tx seq W (intssAt_of hst) (strsAt_of htx)

set_option maxRecDepth 100000 in
theorem topFloor_lifted (os : Os) (started : os.Started) (H : Type) (enc : TypeId × Value → H) :
    ReturnsInHanded {} Try.checked os 4 .any (Rows.topFloorSpec.pre6 enc Try.prog Try.f4 Rows.topFloorRow.domain false) (Rows.topFloorSpec.post enc Try.prog Try.f4 false true false false) :=
  law_lifted (C := Try.checked) Rows.topFloorRow.domain Try.own started (by kernel_rfl) Try.func4 Try.laidOut (by kernel_rfl) rfl Try.underlying4 rfl (fun ds h => by match ds, h with | [_, _, _, _], _ => rfl)
    (ChangeSpec.witness6 (enc := enc) (C := Try.checked) false ⟨#[], #[.int .i64 0, .slice none 0 0, .slice none 0 0, .int .i64 0], []⟩ 8 (by kernel_rfl) (by kernel_rfl) (by kernel_rfl) (by kernel_rfl)) topFloor_walk

theorem topFloor_holds : Rows.TopFloorSaid :=
  OpenClaim.holds_of_wide 4 Try.f4 rfl rfl rfl rfl rfl rfl rfl ⟨rfl, rfl, rfl, rfl, rfl⟩ rfl rfl rfl rfl rfl (by kernel_rfl) Try.func4 (by kernel_rfl)
    (of_decide_eq_true (by kernel_rfl)) (by unfold Func.isWrapper; rw [if_neg (of_decide_eq_false (by kernel_rfl))]; exact ⟨rfl, rfl⟩)
    (fun os started H enc _ => topFloor_lifted os started H enc)

end Go.Proofs.Ytdocdmpfokdjkaa
