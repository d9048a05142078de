/-
  PROVED HERE: merelaw2.MeshTrue returns true: each entry of each cache of a mesh is what its store tells of its time, what is told is not older than it was asked for, and what was just put is told by who put it. CONDITIONS: the library's table of the powers of ten reads as it is laid (Tb).
-/
import Derived.Test.YtlcbdhblaamekaaDoorMeshAt
import Derived.Test.YtlcbdhblaamekaaDoorMeshSwap
import Derived.Test.YtlcbdhblaamekaaDoorMeshDel
import Derived.Deep.CutBlock
import Derived.Deep.DeepCutAuto
import Derived.Deep.RegionHeld3
namespace Go.Proofs.YtlcbdhblaamekaaDoor
open Go.RowKit
open Go.ChangeShapes Go.WideShapes Go.ChangeAt

def oneF : List E := [⟨3, 0, 0, false, ⟨#[120]⟩⟩]
def oneG : E := ⟨3, 1, 1, false, ⟨#[120]⟩⟩
theorem two_put : mdoR 2 [] 0 (rput [] 3 ⟨#[120]⟩) = ((1, 0), oneF) := by kernel_rfl
theorem two_learn : learnC [[], []] 0 3 oneF = [[oneG], []] := by kernel_rfl
theorem two_get : mgetR oneF [[oneG], []] 1 3 1 = ((oneG, false, 0), [[oneG], [oneG]]) := by kernel_rfl

theorem five_ways (x : Int) : (x = 0 ∨ x = 1) ∨ x = 2 ∨ (x = 3 ∨ x = 4) ∨ (¬ x = 0 ∧ ¬ x = 1 ∧ ¬ x = 2 ∧ ¬ x = 3 ∧ ¬ x = 4) := by
  by_cases h0 : x = 0
  · exact .inl (.inl h0)
  by_cases h1 : x = 1
  · exact .inl (.inr h1)
  by_cases h2 : x = 2
  · exact .inr (.inl h2)
  by_cases h3 : x = 3
  · exact .inr (.inr (.inl (.inl h3)))
  by_cases h4 : x = 4
  · exact .inr (.inr (.inl (.inr h4)))
  exact .inr (.inr (.inr ⟨h0, h1, h2, h3, h4⟩))
set_option maxHeartbeats 16000000 in
set_option maxRecDepth 100000 in
theorem meshTrue_any (n : Int) (st : SlV (SlV Int)) (tx : SlV ByteArray) (w : World) (hst : IntssAt w st) (htx : StrsAt w tx) (htb : Tb w) :
    Calls Tryd.prog 4 #[.int .i64 n, .slice st.A st.xs.length st.c, .slice tx.A tx.xs.length tx.c] w fun e w' => e = .returned (.bool true) ∧ Below w.heap.size w w' := by
  have hlen := hst.len
  have hlent := htx.len
  unfold maxLen at hlen hlent
  have HTb := hid htb
  clear htb
  have HNa := hid (mnew_ok 2 w (by omega) (by omega))
  go_enter Tryd.func4, Tryd.ntmps4
  go_wp2_with fail
  refine HNa.out.mono ?_
  rintro e w1 ⟨v, rfl, hNa⟩
  obtain ⟨ma, rfl, hMa, hba⟩ := hNa.meshW
  have hza := hba.size
  have HPa := hid (mputW 0 3 ⟨#[120]⟩ (by unfold maxLen; decide) w1 hMa (fun i hi => by omega) hza)
  simp only [List.length_replicate, two_put, if_true] at HPa
  have Hba := hid hba
  clear hMa hba hNa HNa
  go_wp2_with fail
  refine HPa.out.mono ?_
  rintro e w2 ⟨rfl, hM2, hF2⟩
  rw [show learnC (List.replicate 2 []) (0 : Int).toNat 3 oneF = [[oneG], []] from two_learn] at hM2
  have hbb : Below w.heap.size w w2 := Hba.out.trans (hF2.below0 hza (fun i hi => hi.1))
  have hzb := hbb.size
  have HGa := hid (mgetW 1 3 1 w2 hM2 (fun i hi => by omega) hzb)
  rw [two_get] at HGa
  have Hbb := hid hbb
  rw [show errV 0 = .nilIface from rfl]
  clear hM2 hF2 hbb HPa
  go_wp2_with fail
  refine HGa.out.mono ?_
  rintro e w3 ⟨rfl, hM3, hF3⟩
  have Hb3 := hid (Hbb.out.trans (hF3.below0 hzb (fun i hi => hi.1)))
  have hz3 := Hb3.out.size
  rw [show oneG.val = .agg #[.int .i64 3, .int .i64 1, .int .i64 1, .bool false, .string ⟨#[120]⟩] from rfl]
  simp only
  rw [show errV 0 = .nilIface from rfl]
  clear hM3 hF3 HGa
  go_upto_region 8 with fail
  obtain ⟨w4, hw4⟩ : ∃ W : World, W = w3.alloc (.cells #[.int .i64 3, .int .i64 1, .int .i64 1, .bool false, .string ⟨#[120]⟩] 38) := ⟨_, rfl⟩
  rw [← hw4]
  have Hb4 := hid (show Below w.heap.size w w4 by rw [hw4]; exact Hb3.out.alloc hz3 _)
  have hz4 := Hb4.out.size
  clear hw4
  by_cases hn : n < 1 ∨ 6 < n
  · have HB := hid (mnew_bad n w4 hn)
    clear hn
    go_wp2_with fail
    refine HB.out.mono ?_
    rintro e w5 ⟨rfl, hb5⟩
    have Hb5 := hid (Below.step Hb4.out hb5 hz4)
    clear hb5
    go_wp2_with fail
    go_ret
    exact ⟨rfl, Hb5.out⟩
  obtain ⟨N, rfl⟩ := Int.eq_ofNat_of_zero_le (show 0 ≤ n by omega)
  have HNw := hid (mnew_ok N w4 (by omega) (by omega))
  have hN1 : ¬ (N : Int) < 1 := by omega
  have hN6 : ¬ (6 : Int) < (N : Int) := by omega
  clear hn
  go_wp2_with fail
  refine HNw.out.mono ?_
  rintro e w5 ⟨vm, rfl, hNr⟩
  obtain ⟨m, rfl, hM, hb5⟩ := hNr.meshW
  have Hb5 := hid (Below.step Hb4.out hb5 hz4)
  have hz5 := hb5.size
  have HM5 := hid hM
  clear hM hb5 hNr HNw
  go_upto_block 0 with fail
  go_cut [] (fun wx => ∃ (D : List E) (C : List (List E)), C.length = N ∧ MeshW w4.heap.size wx m D C (fun i => i < w4.heap.size) ∧ Below w.heap.size w wx)
  case first =>
    go_wp2_with fail
    go_loopw [16] (fun i wr => ∃ (k : Nat) (D : List E) (C : List (List E)), k ≤ 40 ∧ i = .int .i64 k ∧ C.length = N ∧ MeshW w4.heap.size wr m D C (fun i => i < w4.heap.size) ∧ Below w.heap.size w wr ∧ w4.heap.size ≤ wr.heap.size) (fun i _ => 40 - (intOf i).toNat)
    case atStart => exact ⟨0, [], List.replicate N [], by omega, rfl, List.length_replicate, HM5.out, Hb5.out, hz5⟩
    case round =>
      obtain ⟨n, D, C, hn, rfl, hCl, hM, hbr, hz1r⟩ := hrel
      clear HM5
      have HCl := hid hCl
      by_cases hcond : n < st.xs.length ∧ n < 40
      · obtain ⟨hn1, hn2⟩ := hcond
        obtain ⟨b, off, hA, hb, hcells⟩ := hst.row (by omega)
        have hcell := hcells n hn1
        have hin := hst.each n hn1
        rw [← hbr.cell (p := ⟨b, off + n, none⟩) hb] at hcell
        have HA := hid hA
        rw [hA]
        generalize hrw : st.xs[n] = rw_ at *
        clear hcells hA hrw hCl
        obtain ⟨wo, rfl⟩ : ∃ wo : World, wo = wr := ⟨_, rfl⟩
        have hzr := hbr.size
        have hVlt : w.heap.size ≤ wo.heap.size := hbr.size
        go_upto_block 2 with fail
        go_cut [] (fun wx => ∃ vs : List Int, vs.length = 4 ∧ Blk wx wo.heap.size 52 (ints vs) ∧ Fr (fun x => x = wo.heap.size) (wo.alloc (.cells (ints [0, 0, 0, 0]) 52)) wx)
        case first =>
          have hV0 : Blk (wo.alloc (.cells (ints [0, 0, 0, 0]) 52)) wo.heap.size 52 (ints [0, 0, 0, 0]) := Blk.new _ _ _
          go_wp2_with fail
          go_loopw [18] (fun j w2 => ∃ (m : Nat) (vs : List Int), m ≤ 4 ∧ m ≤ rw_.xs.length ∧ j = .int .i64 m ∧ vs.length = 4 ∧ Blk w2 wo.heap.size 52 (ints vs) ∧ Fr (fun x => x = wo.heap.size) (wo.alloc (.cells (ints [0, 0, 0, 0]) 52)) w2)
            (fun j _ => 4 - (intOf j).toNat)
          case atStart => exact ⟨0, [0, 0, 0, 0], by omega, by omega, rfl, rfl, hV0, Fr.refl _ _⟩
          case round =>
            obtain ⟨m, vs, hm3, hml, rfl, hvl, hVb, hVf⟩ := hrel
            have hcell2 := (hVf.cell (p := ⟨b, off + n, none⟩) (by simp; omega) (by simp; omega)).trans ((World.cell?_alloc_lt wo _ ⟨b, off + n, none⟩ (by simp; omega)).trans hcell)
            by_cases hm1 : m < rw_.xs.length
            · by_cases hm2 : m < 4
              · obtain ⟨b2, off2, hA2, hb2, hcells2⟩ := hin.row (by omega)
                have hx := hcells2 m hm1
                have hx2 := (hVf.cell (p := ⟨b2, off2 + m, none⟩) (by simp; omega) (by simp; omega)).trans ((World.cell?_alloc_lt wo _ ⟨b2, off2 + m, none⟩ (by simp; omega)).trans ((hbr.cell (p := ⟨b2, off2 + m, none⟩) hb2).trans hx))
                rw [hA2] at hcell2
                generalize rw_.xs.getD m 0 = x at *
                have hv : _ = some (Value.int .i64 (vs.getD m 0)) := (hVb.cell m).trans (ints_get vs m (by omega))
                have hvf := hVb.frozen m
                have hVb' := hVb.put m (.int .i64 x)
                rw [ints_set] at hVb'
                have hVf' := Fr.setCell (S := fun x => x = wo.heap.size) hVf (p := ⟨wo.heap.size, m, none⟩) (.inl rfl) (.int .i64 x)
                have HV := hid (And.intro hVb' hVf')
                clear hcells2 hA2 hx hVb' hVf'
                go_wp2_with fail
                go_roundw
                case rel => exact ⟨m + 1, _, by omega, by omega, by go_num, by simpa using hvl, HV.out.1, HV.out.2⟩
                case measure => simp [intOf]; omega
              · go_wp2_with fail
                go_meet
                exact ⟨vs, hvl, hVb, hVf⟩
            · go_wp2_with fail
              go_meet
              exact ⟨vs, hvl, hVb, hVf⟩
        case rest =>
          obtain ⟨vs, hvl, hVb, hVf⟩ := hcut
          obtain ⟨x0, x1, x2, x3, rfl⟩ : ∃ x0 x1 x2 x3, vs = [x0, x1, x2, x3] := by
            match vs, hvl with
            | [x0, x1, x2, x3], _ => exact ⟨x0, x1, x2, x3, rfl⟩
          obtain ⟨wd, rfl⟩ : ∃ wd : World, wd = wc := ⟨_, rfl⟩
          have cv0 : wd.cell? ⟨wo.heap.size, 0, none⟩ = some (.int .i64 x0) := hVb.cell 0
          have cv1 : wd.cell? ⟨wo.heap.size, 1, none⟩ = some (.int .i64 x1) := hVb.cell 1
          have cv2 : wd.cell? ⟨wo.heap.size, 2, none⟩ = some (.int .i64 x2) := hVb.cell 2
          have cv3 : wd.cell? ⟨wo.heap.size, 3, none⟩ = some (.int .i64 x3) := hVb.cell 3
          have HVb := hid hVb
          have hbo : Below wo.heap.size wo wd := ((Below.refl _ _).alloc (Nat.le_refl _) _).trans (hVf.below (by simp) (fun i hi e => by omega))
          have hzo := hbo.size
          have Hbd := hid (Below.step hbr hbo hzr)
          have hlV := hVb.lt
          have HMd := hid ((hM.avoid hbo).less (A' := fun i => i < w4.heap.size ∨ i = wo.heap.size) (fun i hi => hi.imp (fun h => h) (fun h => by omega)))
          have hzd : w4.heap.size ≤ wd.heap.size := by omega
          clear hVf hcell hin hM hbr hbo hVb
          go_upto_if 128 with fail
          go_cut [19] (fun t wx => (∃ x : ByteArray, x.size ≤ maxLen ∧ t = .string x) ∧ wx = wd)
          case first =>
            by_cases hnt : n < tx.xs.length
            · obtain ⟨b2, off2, hA2, hb2, hc2⟩ := htx.row (by omega)
              have hx := (Hbd.out.cell (p := ⟨b2, off2 + n, none⟩) hb2).trans (hc2 n hnt)
              have hxg := htx.each _ (List.getElem_mem hnt)
              have Hxg := hid hxg
              generalize tx.xs[n] = x at *
              have HA2 := hid hA2
              rw [hA2]
              clear hA2 hc2 hxg
              go_wp2_with fail
              rw [← HA2.out]
              go_meet
              exact ⟨⟨x, Hxg.out, rfl⟩, rfl⟩
            · have hnt' : ¬ ((n : Int) < (tx.xs.length : Int)) := by omega
              go_wp2_with fail
              go_meet
              exact ⟨⟨ByteArray.mk #[], Nat.zero_le _, rfl⟩, rfl⟩
          case rest =>
          obtain ⟨⟨tt, htt, rfl⟩, hwc⟩ := hcut
          obtain rfl : wd = wc := hwc.symm
          have hAd : ∀ i, (i < w4.heap.size ∨ i = wo.heap.size) → i < wd.heap.size := fun i hi => by
            rcases hi with hi | hi <;> omega
          have HAd := hid hAd
          have Htt := hid htt
          clear hAd htt
          rcases (show (x0 = 0 ∨ x0 = 1) ∨ x0 = 2 ∨ (x0 = 3 ∨ x0 = 4) ∨ (¬ x0 = 0 ∧ ¬ x0 = 1 ∧ ¬ x0 = 2 ∧ ¬ x0 = 3 ∧ ¬ x0 = 4) from five_ways x0) with h | h | h | h
          · as_aux_lemma =>
            have HPt := hid (mputW x1 x2 tt Htt.out wd HMd.out HAd.out hzd)
            have HTold := hid (fun h0 => put_told HMd.out.deeds HMd.out.cac (node := x1) (key := x2) (t := tt) h0)
            have HNum := hid (fun h0 => put_num (D := D) (C := C) (node := x1) (key := x2) (t := tt) h0)
            generalize mdoR C.length D x1 (rput D x2 tt) = R at *
            obtain ⟨⟨r1, r2⟩, D2⟩ := R
            simp only at HPt HTold HNum
            rcases h with rfl | rfl
            all_goals
              clear hz1r
              go_wp2_with fail
              refine HPt.out.mono ?_
              rintro e w6 ⟨rfl, hM6, hF6⟩
              have hb6 := Hbd.out.trans (hF6.below0 Hbd.out.size (fun i hi => by have := hi.1; omega))
              have hz6 := hF6.size
              have hV6 := HVb.out.fr hF6 (fun hs => hs.2 (.inr rfl))
              have cv1 : w6.cell? ⟨wo.heap.size, 1, none⟩ = some (.int .i64 x1) := hV6.cell 1
              have cv2 : w6.cell? ⟨wo.heap.size, 2, none⟩ = some (.int .i64 x2) := hV6.cell 2
              have hlV6 := hV6.lt
              by_cases h0 : r2 = 0
              · obtain ⟨-, -, hD2, hget⟩ := HTold.out h0
                have hnum := HNum.out h0
                rw [if_pos h0] at hM6
                have hCl6 : (learnC C x1.toNat x2 D2).length = N := by unfold learnC; rw [List.length_set]; exact HCl.out
                rw [h0, errV_zero, hnum]
                have hfl : ((D.length : Int) + 1) = (D2.length : Int) := by rw [hD2, List.length_append, List.length_singleton]; omega
                rw [← hD2, ← hfl] at hget
                generalize learnC C x1.toNat x2 D2 = C2 at *
                generalize (D.length : Int) + 1 = q at *
                have HG := hid (mgetB x1 x2 q _ w6 hM6 hget)
                simp only at HG
                have HM6 := hid hM6
                have Hb6 := hid hb6
                have HCl6 := hid hCl6
                clear HTold HNum hD2 hget hnum hfl hM6 hF6 hb6 hV6 HPt h0 hCl6
                go_wp2_with fail
                refine HG.out.mono ?_
                rintro e w7 ⟨rfl, hb7⟩
                have HM7 := hid (HM6.out.belowS hb7)
                have Hb7 := hid (Below.step Hb6.out hb7 Hb6.out.size)
                have hz7 := hb7.size
                have hzw7 := Hb7.out.size
                clear hb7 HG cv1 cv2
                go_wp2_with fail
                go_roundw
                case rel => exact ⟨n + 1, D2, C2, by omega, by go_num, HCl6.out, (HM7.out.belowS ((Below.refl _ _).alloc (Nat.le_refl _) _)).less (fun i hi => .inl hi), Hb7.out.alloc hzw7 _, by rw [World.size_alloc]; omega⟩
                case measure => simp [intOf]; omega
              · rw [if_neg h0] at hM6
                rw [errV_ne h0]
                have HM6 := hid hM6
                have Hb6 := hid hb6
                clear HTold HNum hM6 hF6 hb6 hV6 HPt h0 cv1 cv2
                go_wp2_with fail
                go_roundw
                case rel => exact ⟨n + 1, D2, C, by omega, by go_num, HCl.out, HM6.out.less (fun i hi => .inl hi), Hb6.out, by omega⟩
                case measure => simp [intOf]; omega
          · as_aux_lemma =>
            subst h
            have HDl := hid (mdelW x1 x2 wd HMd.out HAd.out hzd)
            have hl6 : (if (mdoR C.length D x1 (rdel D x2)).1.2 = 0 then learnC C x1.toNat x2 (mdoR C.length D x1 (rdel D x2)).2 else C).length = C.length := by
              split
              · unfold learnC; rw [List.length_set]
              · rfl
            have Hl6 := hid hl6
            clear hl6 hz1r
            generalize mdoR C.length D x1 (rdel D x2) = R at *
            obtain ⟨⟨r1, r2⟩, D2⟩ := R
            simp only at HDl Hl6
            go_wp2_with fail
            refine HDl.out.mono ?_
            rintro e w6 ⟨rfl, hM6, hF6⟩
            have Hb6 := hid (Hbd.out.trans (hF6.below0 Hbd.out.size (fun i hi => by have := hi.1; omega)))
            have hz6 := hF6.size
            have HM6 := hid hM6
            clear hM6 hF6 HDl cv0 cv1 cv2 cv3
            go_wp2_with fail
            go_roundw
            case rel => exact ⟨n + 1, D2, _, by omega, by go_num, Hl6.out.trans HCl.out, HM6.out.less (fun i hi => .inl hi), Hb6.out, by omega⟩
            case measure => simp [intOf]; omega
          · as_aux_lemma =>
            have HGt := hid (mgetW x1 x2 x3 wd HMd.out HAd.out hzd)
            have HGood := hid (fun h0 => mget_good HMd.out (node := x1) (key := x2) (fl := x3) h0)
            have hl6 : (mgetR D C x1 x2 x3).2.length = C.length := by
              unfold mgetR
              split
              · split
                · split
                  · rfl
                  · unfold learnC; rw [List.length_set]
                · unfold learnC; rw [List.length_set]
              · rfl
            have Hl6 := hid hl6
            generalize mgetR D C x1 x2 x3 = R at *
            obtain ⟨⟨⟨y0, y1, y2, y3, y4⟩, ub, en⟩, C2⟩ := R
            simp only [E.val] at HGt HGood Hl6
            clear hl6 hz1r
            rcases h with rfl | rfl
            all_goals
              go_wp2_with fail
              refine HGt.out.mono ?_
              rintro e w6 ⟨rfl, hM6, hF6⟩
              have Hb6 := hid (Hbd.out.trans (hF6.below0 Hbd.out.size (fun i hi => by have := hi.1; omega)))
              have hz6 := hF6.size
              have hV6 := HVb.out.fr hF6 (fun hs => hs.2 (.inr rfl))
              have cv2 : w6.cell? ⟨wo.heap.size, 2, none⟩ = some (.int .i64 x2) := hV6.cell 2
              have cv3 : w6.cell? ⟨wo.heap.size, 3, none⟩ = some (.int .i64 x3) := hV6.cell 3
              have hlV6 := hV6.lt
              have hzw6 := Hb6.out.size
              have HM6 := hid hM6
              clear hM6 hF6 hV6 HGt
              by_cases hen : en = 0
              · obtain ⟨-, g2, g3, -, -⟩ := HGood.out hen
                (try simp only at g2 g3)
                have hnl : ¬ y2 < x3 := by omega
                have hnk : (y0 != x2) = false := by rw [g2]; simp
                rw [hen, errV_zero]
                clear g2 g3 HGood hen
                go_wp2_with fail
                go_roundw
                case rel => exact ⟨n + 1, D, C2, by omega, by go_num, Hl6.out.trans HCl.out, (HM6.out.belowS ((Below.refl _ _).alloc (Nat.le_refl _) _)).less (fun i hi => .inl hi), Hb6.out.alloc hzw6 _, by rw [World.size_alloc]; omega⟩
                case measure => simp [intOf]; omega
              · rw [errV_ne hen]
                clear HGood hen
                go_wp2_with fail
                go_roundw
                case rel => exact ⟨n + 1, D, C2, by omega, by go_num, Hl6.out.trans HCl.out, (HM6.out.belowS ((Below.refl _ _).alloc (Nat.le_refl _) _)).less (fun i hi => .inl hi), Hb6.out.alloc hzw6 _, by rw [World.size_alloc]; omega⟩
                case measure => simp [intOf]; omega
          · as_aux_lemma =>
            obtain ⟨h0, h1, h2, h3, h4⟩ := h
            have b0 : (x0 == 0) = false := by rw [beq_eq_false_iff_ne]; exact h0
            have b1 : (x0 == 1) = false := by rw [beq_eq_false_iff_ne]; exact h1
            have b2 : (x0 == 2) = false := by rw [beq_eq_false_iff_ne]; exact h2
            have b3 : (x0 == 3) = false := by rw [beq_eq_false_iff_ne]; exact h3
            have b4 : (x0 == 4) = false := by rw [beq_eq_false_iff_ne]; exact h4
            have HSw := hid (mswapW x1 x2 wd HMd.out HAd.out hzd (HTb.out.belowS Hbd.out))
            have hl6 : (mswapR C x1 x2).2.length = C.length := by
              unfold mswapR
              split
              · split
                · rfl
                · rw [List.length_set, List.length_set]
              · rfl
            have Hl6 := hid hl6
            clear hl6 hz1r h0 h1 h2 h3 h4
            generalize mswapR C x1 x2 = R at *
            obtain ⟨r2, C2⟩ := R
            simp only at HSw Hl6
            go_wp2_with fail
            refine HSw.out.mono ?_
            rintro e w6 ⟨rfl, hM6, hF6⟩
            have Hb6 := hid (Hbd.out.trans (hF6.below0 Hbd.out.size (fun i hi => by have := hi.1; omega)))
            have hz6 := hF6.size
            have HM6 := hid hM6
            clear hM6 hF6 HSw cv0 cv1 cv2 cv3
            go_wp2_with fail
            go_roundw
            case rel => exact ⟨n + 1, D, C2, by omega, by go_num, Hl6.out.trans HCl.out, HM6.out.less (fun i hi => .inl hi), Hb6.out, by omega⟩
            case measure => simp [intOf]; omega
      · have hcc : (¬ (n : Int) < (st.xs.length : Int)) ∨ ((n : Int) < (st.xs.length : Int) ∧ ¬ (n : Int) < 40) := by omega
        have HM := hid hM
        have Hbr := hid hbr
        clear hM hbr hcond hCl
        rcases hcc with h | ⟨h1, h2⟩
        · go_wp2_with fail
          go_meet
          exact ⟨D, C, HCl.out, HM.out, Hbr.out⟩
        · go_wp2_with fail
          go_meet
          exact ⟨D, C, HCl.out, HM.out, Hbr.out⟩
  case rest =>
  obtain ⟨D, C, hCl, hM, hbr⟩ := hcut
  obtain ⟨w6, rfl⟩ : ∃ w6 : World, w6 = wc := ⟨_, rfl⟩
  have HM := hid (fun W (hW : Below w6.heap.size w6 W) => hM.belowS hW)
  have HDd := hid hM.deeds
  have HCc := hid hM.cac
  have Hb6 := hid hbr
  have hz6 := hbr.size
  have hlD := hM.deeds.len
  clear hM hbr HM5
  go_wp2_with fail
  go_loopw [28] (fun i wr => ∃ j : Nat, j ≤ N ∧ i = .int .i64 j ∧ Below w6.heap.size w6 wr) (fun i _ => N - (intOf i).toNat)
  case atStart => exact ⟨0, Nat.zero_le _, rfl, Below.refl _ _⟩
  case round =>
    obtain ⟨c, hc, rfl, hbk⟩ := hrel
    obtain ⟨wk, rfl⟩ : ∃ wk : World, wk = wr := ⟨_, rfl⟩
    have Hbk := hid hbk
    have hzk := hbk.size
    by_cases hlc : c < N
    · have HCa := hid (mcacheW c wk (HM.out wk hbk))
      rw [show inM C.length (c : Int) = true from inM_true.2 ⟨by omega, by omega⟩, if_pos rfl, if_pos rfl, errV_zero, Int.toNat_natCast] at HCa
      have hcd := HCc.out _ (getD_memD [] (show c < C.length by omega))
      generalize C.getD c [] = L at *
      have HCd := hid hcd
      clear hcd hbk
      go_wp2_with fail
      refine HCa.out.mono ?_
      rintro e w7 ⟨⟨y, rfl, hyx, hyo⟩, hb7⟩
      have Hbk7 := hid (Below.step Hbk.out hb7 hzk)
      have HEs := hid (fun W (hW : Below w7.heap.size w7 W) => (hyo.belowS hW).es)
      have HCk := hid (ccheck_any y w7 hyo.es.entries)
      rw [show chkC y.xs = 0 by rw [hyx]; exact HCd.out.1, errV_zero] at HCk
      have hly := hyo.es.len
      unfold maxLen at hly
      have Hyx := hid hyx
      clear hyx hyo hb7 HCa
      go_wp2_with fail
      refine HCk.out.mono ?_
      rintro e w8 ⟨rfl, hb8⟩
      have Hb78 := hid hb8
      have Hbk8 := hid (Below.step Hbk7.out hb8 Hbk7.out.size)
      have hz78 := hb8.size
      clear hb8 HCk
      go_wp2_with fail
      go_loopw [31] (fun i wr => ∃ j : Nat, j ≤ y.xs.length ∧ i = .int .i64 j ∧ Below w7.heap.size w7 wr) (fun i _ => y.xs.length - (intOf i).toNat)
      case atStart => exact ⟨0, Nat.zero_le _, rfl, Hb78.out⟩
      case round =>
        obtain ⟨j, hj, rfl, hbj⟩ := hrel
        obtain ⟨wj, rfl⟩ : ∃ wj : World, wj = wr := ⟨_, rfl⟩
        have Hb7j := hid hbj
        have hzj := hbj.size
        have Hbkj := hid (Below.step Hbk7.out hbj Hbk7.out.size)
        by_cases hlj : j < y.xs.length
        · obtain ⟨g, off, hA, hgl, hcells⟩ := (HEs.out wj hbj).row (by omega)
          obtain ⟨k0, k1, k2, k3, k4⟩ := hcells j hlj
          have htr := HCd.out.2 _ (by rw [← Hyx.out]; exact getD_memD E.zero hlj)
          generalize y.xs.getD j E.zero = x at *
          have has := htr.asof
          have hchk := htr.chk HDd.out
          have hrng := fun q h1 h2 => htr.at_range HDd.out (q := q) h1 h2
          obtain ⟨z0, z1, z2, z3, z4⟩ := x
          simp only at k0 k1 k2 k3 k4 has hrng
          have hv := chk_zero.1 hchk
          obtain ⟨-, hv1, -, hv3, -, -⟩ := hv
          have hv1' := seqB_true.1 hv1
          simp only at hv1' hv3
          have hwr : wrap64 (z1 + 50) = z1 + 50 := by unfold wrap64; omega
          have hg4 := chk_goodE hchk
          have HCx := hid (fun W => show Calls Tryd.prog 19 #[.agg #[.int .i64 z0, .int .i64 z1, .int .i64 z2, .bool z3, .string z4]] W (fun e w' => e = .returned .nilIface ∧ Below W.heap.size W w') from by
            have := check_any z0 z1 z2 z3 z4 W hg4.2.2.2
            rw [hchk, errV_zero] at this
            exact this)
          have Hrng := hid hrng
          have HSq := hid (fun W (hW : Below w6.heap.size w6 W) => mseqW W (HM.out W hW))
          have hnas : ¬ (D.length : Int) < z2 := by omega
          rw [hA]
          clear hA hcells htr has hchk hrng hv1 hg4 hbj
          go_upto_region 48 with fail
          obtain ⟨w9, hw9⟩ : ∃ W : World, W = wj.alloc (.cells #[.int .i64 z0, .int .i64 z1, .int .i64 z2, .bool z3, .string z4] 38) := ⟨_, rfl⟩
          rw [← hw9]
          have hB9 : Blk w9 wj.heap.size 38 #[.int .i64 z0, .int .i64 z1, .int .i64 z2, .bool z3, .string z4] := by rw [hw9]; exact Blk.new _ _ _
          have hbj9 : Below wj.heap.size wj w9 := by rw [hw9]; exact (Below.refl _ _).alloc (Nat.le_refl _) _
          have Hb9 := hid (Below.step Hbkj.out hbj9 Hbkj.out.size)
          have Hb79 := hid (Below.step Hb7j.out hbj9 hzj)
          have HB9 := hid hB9
          have c0 : w9.cell? ⟨wj.heap.size, 0, none⟩ = some (.int .i64 z0) := hB9.cell 0
          have c1 : w9.cell? ⟨wj.heap.size, 1, none⟩ = some (.int .i64 z1) := hB9.cell 1
          have c2 : w9.cell? ⟨wj.heap.size, 2, none⟩ = some (.int .i64 z2) := hB9.cell 2
          have c3 : w9.cell? ⟨wj.heap.size, 3, none⟩ = some (.bool z3) := hB9.cell 3
          have c4 : w9.cell? ⟨wj.heap.size, 4, none⟩ = some (.string z4) := hB9.cell 4
          have hl9 := hB9.lt
          clear hw9 hB9 hbj9 k0 k1 k2 k3 k4
          go_cut [261] (fun v wx => v = .bool false ∧ Below w9.heap.size w9 wx)
          case first =>
            go_region_law (first | (go_simp; go_at_call 18; refine (HSq.out _ (Below.manyDrew Hb9.out 1)).mono ?_; rintro e wn ⟨rfl, rfl⟩) | (go_simp; go_at_call 19; refine (HCx.out _).mono ?_; rintro e wn ⟨rfl, hbn⟩; obtain ⟨hcn, hfn⟩ := bcell hbn; have hzn := hbn.size; (try simp only [World.size_drewN] at hzn)))
            all_goals
              go_wp2_with fail
              go_meet
              exact ⟨rfl, by (repeat (first | with_reducible exact Below.refl _ _ | with_reducible assumption | (with_reducible refine Below.drew ?_) | (with_reducible refine Below.manyDrew ?_ _) | ((with_reducible refine Below.alloc ?_ ?_ _); rotate_left; (focus (first | omega | (dsimp only; omega) | (simp; done) | (simp; omega)))) | ((with_reducible refine Below.setCell ?_ ?_ _); rotate_left; (focus (first | omega | (dsimp only; omega) | (simp; done) | (simp; omega)))) | ((with_reducible refine Below.step ?_ (by assumption) ?_); rotate_left; (focus (first | omega | (dsimp only; omega) | (simp; done) | (simp; omega))))))⟩
          case rest =>
          obtain ⟨rfl, hb10⟩ := hcut
          obtain ⟨w10, rfl⟩ : ∃ w10 : World, w10 = wc := ⟨_, rfl⟩
          have HB10 := hid (HB9.out.belowS hb10)
          have Hb10 := hid (Below.step Hb9.out hb10 Hb9.out.size)
          have Hb710 := hid (Below.step Hb79.out hb10 Hb79.out.size)
          have d1 : w10.cell? ⟨wj.heap.size, 1, none⟩ = some (.int .i64 z1) := HB10.out.cell 1
          have hl10 := HB10.out.lt
          clear hb10 c0 c1 c2 c3 c4 HCx HSq
          go_wp2_with fail
          go_loopw [33] (fun i wr => ∃ q : Int, z1 ≤ q ∧ q ≤ z1 + 50 ∧ q ≤ z2 + 1 ∧ i = .int .i64 q ∧ Below w10.heap.size w10 wr) (fun i _ => (z1 + 50 - intOf i).toNat)
          case atStart => exact ⟨z1, by omega, by omega, by omega, rfl, Below.refl _ _⟩
          case round =>
            obtain ⟨q, hq1, hq2, hq3, rfl, hbq⟩ := hrel
            obtain ⟨wq, rfl⟩ : ∃ wq : World, wq = wr := ⟨_, rfl⟩
            have hBq := HB10.out.belowS hbq
            have e0 : wq.cell? ⟨wj.heap.size, 0, none⟩ = some (.int .i64 z0) := hBq.cell 0
            have e1 : wq.cell? ⟨wj.heap.size, 1, none⟩ = some (.int .i64 z1) := hBq.cell 1
            have e2 : wq.cell? ⟨wj.heap.size, 2, none⟩ = some (.int .i64 z2) := hBq.cell 2
            have hlq := hBq.lt
            have Hbkq := hid (Below.step Hb10.out hbq Hb10.out.size)
            have Hb10q := hid hbq
            have hzq := hbq.size
            clear d1 hbq
            by_cases hcq : q ≤ z2 ∧ q < z1 + 50
            · obtain ⟨hq4, hq5⟩ := hcq
              obtain ⟨⟨u0, u1, u2, u3, u4⟩, hat, rfl, rfl, rfl⟩ := Hrng.out q hq1 hq4
              have HAt := hid (matW z0 q wq (HM.out wq Hbkq.out))
              rw [hat, errV_zero] at HAt
              simp only [E.val] at HAt
              clear hat
              go_wp2_with fail
              refine HAt.out.mono ?_
              rintro e wa ⟨rfl, hba⟩
              have hBa := hBq.belowS hba
              have e1 : wa.cell? ⟨wj.heap.size, 1, none⟩ = some (.int .i64 u1) := hBa.cell 1
              have e3 : wa.cell? ⟨wj.heap.size, 3, none⟩ = some (.bool u3) := hBa.cell 3
              have e4 : wa.cell? ⟨wj.heap.size, 4, none⟩ = some (.string u4) := hBa.cell 4
              have hla := hBa.lt
              have Hba := hid (Below.step Hb10q.out hba hzq)
              have hzwa := Hba.out.size
              clear hba hBa HAt hBq
              go_wp2_with fail
              go_roundw
              case rel => exact ⟨q + 1, by omega, by omega, by omega, by go_num, Hba.out.alloc hzwa _⟩
              case measure => simp [intOf]; omega
            · have hcc : (¬ q ≤ z2) ∨ (q ≤ z2 ∧ ¬ q < z1 + 50) := by omega
              have Hout := hid (Below.step Hb710.out Hb10q.out Hb710.out.size)
              clear hcq hBq
              rcases hcc with h | ⟨h1, h2⟩
              · go_wp2_with fail
                go_roundw
                case rel => exact ⟨j + 1, by omega, by go_num, Hout.out⟩
                case measure => simp [intOf]; omega
              · go_wp2_with fail
                go_roundw
                case rel => exact ⟨j + 1, by omega, by go_num, Hout.out⟩
                case measure => simp [intOf]; omega
        · go_wp2_with fail
          go_roundw
          case rel => exact ⟨c + 1, by omega, by go_num, Hbkj.out⟩
          case measure => simp [intOf]; omega
    · go_wp2_with fail
      go_ret
      exact ⟨rfl, Below.step Hb6.out Hbk.out hz6⟩

set_option maxRecDepth 100000 in
theorem meshTrue_walk : LawWalk Tryd.prog 4 Tryd.f4 Tb := by
  intro W base args H enc ds p hval hA hgl
  rw [Tryd.params4] at hA hval
  obtain ⟨v0, v1, v2, d0, d1, d2, p0, p1, p2, rfl, rfl, rfl, h0, h1, h2⟩ := trodAll_three hA
  obtain ⟨n, rfl, _⟩ := arg_int Tryd.underlying3 (hval 0 3 v0 rfl rfl) h0
  obtain ⟨st, rfl, hst⟩ := arg_slice Tryd.underlying22 codecInts (pos_of_eq Tryd.cellsInts (by decide)) (hval 1 22 v1 rfl rfl) h1
  obtain ⟨tx, rfl, htx⟩ := arg_slice Tryd.underlying23 (Codec.str Tryd.underlying9) (pos_of_eq Tryd.cellsStr (by decide)) (hval 2 23 v2 rfl rfl) h2
  exact meshTrue_any n st tx W (intssAt_of hst) (strsAt_of htx) hgl

set_option maxRecDepth 100000 in
theorem meshTrue_lifted (os : Os) (started : os.Started) (H : Type) (enc : TypeId × Value → H) :
    ReturnsInHanded {} Tryd.checked os 4 .any (fun w args => (Rows.meshTrueSpec.pre enc Tryd.checked.prog Tryd.f4 [] false w args ∧ laidMetH Tryd.prog laid3 w) ∧ sizedMet enc Tryd.checked.prog Tryd.f4 (OpenSpec.ofChange Rows.meshTrueSpec) false w args) (Rows.meshTrueSpec.post enc Tryd.checked.prog Tryd.f4 false true false false) :=
  laid_lifted (C := Tryd.checked) laid3 (fun _ h => tb_of_laid3 h) [] Tryd.own started (by kernel_rfl) Tryd.func4 Tryd.laidOut (by kernel_rfl) rfl Tryd.underlying4 rfl (fun ds h => by match ds, h with | [_, _, _], _ => rfl)
    (ChangeSpec.witness_shaped (enc := enc) (C := Tryd.checked) (os := os) (X := fun w _ => laidMetH Tryd.prog laid3 w) false (World.doorLaid Tryd.prog 4000 os) #[.int .i64 0, .slice none 0 0, .slice none 0 0] 8 rfl (World.shaped_of_RefB (by kernel_rfl) (by kernel_rfl)) (by kernel_rfl) (by kernel_rfl) (by kernel_rfl) (door_met3 os _)) meshTrue_walk

theorem meshTrue_row : Rows.MeshTrueSaid :=
  OpenClaim.holds_of_wide 4 Tryd.f4 rfl rfl rfl rfl rfl rfl rfl ⟨rfl, rfl, rfl, rfl, rfl⟩ rfl rfl rfl rfl rfl (by kernel_rfl) Tryd.func4 (by kernel_rfl)
    (of_decide_eq_true (by kernel_rfl)) (by unfold Func.isWrapper; rw [if_neg (of_decide_eq_false (by kernel_rfl))]; exact ⟨rfl, rfl⟩)
    (fun os started H enc _ => meshTrue_lifted os started H enc)

theorem meshTrue_holds : Rows.MeshTrueCardSaid :=
  Claim7.holds_tied_plain_at .later [] [.data, .data, .data] true _ false
    meshTrue_row (fun _ h => by cases h) (by kernel_rfl) (fun _ h => by cases h) meshTrue_row_tie rfl ⟨rfl, rfl⟩ (by kernel_rfl) rfl
    (fun f fn hf hfn => by
      obtain rfl : f = 4 := Option.some.inj ((show Tryd.prog.funcNamed "beaconmere/merelaw2.MeshTrue" = some 4 by kernel_rfl).symm.trans hf) |>.symm
      obtain rfl : fn = Tryd.f4 := (Option.some.inj (Tryd.func4.symm.trans hfn)).symm
      refine ⟨by kernel_rfl, fun j t ht => ?_⟩
      have hall : Tryd.f4.params.toList.all (fun t => !Tryd.prog.wantsStandIn t) = true := by kernel_rfl
      have hm : t ∈ Tryd.f4.params.toList := by
        obtain ⟨hj, hje⟩ := Array.getElem?_eq_some_iff.1 ht
        rw [← hje]
        exact Array.mem_toList_iff.2 (Array.getElem_mem hj)
      have := List.all_eq_true.1 hall t hm
      exact (show Tryd.prog.wantsStandIn t = false by simpa using this))
    (by kernel_rfl)

end Go.Proofs.YtlcbdhblaamekaaDoor
