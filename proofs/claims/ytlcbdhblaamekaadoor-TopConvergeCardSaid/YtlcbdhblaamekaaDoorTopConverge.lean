/-
  PROVED HERE: meretop.TopConverge returns true: nodes of a mesh that swap by calls by which all know all have then of each key the newest, and the same. CONDITIONS: the library's table of the powers of ten reads as it is laid (Tb).
-/
import Derived.Test.YtlcbdhblaamekaaDoorConv
import Derived.Test.YtlcbdhblaamekaaDoorCBoth
import Derived.Deep.CutBlock
import Derived.Deep.DeepCutAuto
import Derived.Deep.RegionHeld3
import Derived.StillTailTactics
import Derived.BigQuiet
namespace Go.Proofs.YtlcbdhblaamekaaDoor
open Go.RowKit
open Go.ChangeShapes Go.WideShapes Go.ChangeAt

def V0of (C : List (List E)) (j k : Nat) : Int := verK (C.getD j []) (k : Nat)
theorem V0of_pos {D : List E} {C : List (List E)} (hD : Deeds D) (hC : ∀ c ∈ C, CacheD D c) (j k : Nat) : 0 ≤ V0of C j k := by
  unfold V0of
  by_cases h : j < C.length
  · exact (hC _ (getD_memD [] h)).pos_ver hD k
  · rw [List.getD_eq_getElem?_getD, List.getElem?_eq_none (by omega)]
    exact Int.le_refl 0
theorem replicate_pos (N : Nat) : ∀ c ∈ List.replicate N ([] : List E), PosC c := fun c hc => by
  rw [(List.mem_replicate.1 hc).2]
  exact fun e he => by cases he
theorem rowAt {w0 : World} {cl : SlV (SlV Int)} {j b off : Nat} {n : Int} (hcl : IntssAt w0 cl) (hA : cl.A = some ⟨b, off, none⟩) (hj : j < cl.xs.length) (hok : CallOk n cl.xs[j].xs) :
    ∃ (b2 off2 c x0 x1 : Nat), b < w0.heap.size ∧ b2 < w0.heap.size ∧ pairOf cl.xs[j] = (x0, x1) ∧ (x0 : Int) < n ∧ (x1 : Int) < n ∧ x0 ≠ x1 ∧ ∀ W, Below w0.heap.size w0 W → W.cell? ⟨b, off + j, none⟩ = some (.slice (some ⟨b2, off2, none⟩) 2 c) ∧ W.cell? ⟨b2, off2, none⟩ = some (.int .i64 x0) ∧ W.cell? ⟨b2, off2 + 1, none⟩ = some (.int .i64 x1) := by
  obtain ⟨h2, ⟨p0, p1⟩, ⟨q0, q1⟩, hne⟩ := hok
  obtain ⟨b', off', hA', hb, hc⟩ := hcl.row (by omega)
  rw [hA] at hA'
  injection hA' with hA'
  injection hA' with e1 e2
  subst e1 e2
  obtain ⟨b2, off2, hA2, hb2, hc2⟩ := (hcl.each j hj).row (by omega)
  have k0 := hc2 0 (by omega)
  have k1 := hc2 1 (by omega)
  refine ⟨b2, off2, cl.xs[j].c, (cl.xs[j].xs.getD 0 0).toNat, (cl.xs[j].xs.getD 1 0).toNat, hb, hb2, rfl, by omega, by omega, by omega, fun W hW => ⟨?_, ?_, ?_⟩⟩
  · rw [hW.cell (p := ⟨b, off + j, none⟩) hb, hc j hj, hA2, h2]
  · rw [hW.cell (p := ⟨b2, off2, none⟩) hb2, show (((cl.xs[j].xs.getD 0 0).toNat : Nat) : Int) = cl.xs[j].xs.getD 0 0 by omega]
    exact k0
  · rw [hW.cell (p := ⟨b2, off2 + 1, none⟩) hb2, show (((cl.xs[j].xs.getD 1 0).toNat : Nat) : Int) = cl.xs[j].xs.getD 1 0 by omega]
    exact k1

set_option maxHeartbeats 16000000 in
set_option maxRecDepth 100000 in
theorem topConverge_any (n : Int) (st : SlV (SlV Int)) (tx : SlV ByteArray) (ca : SlV (SlV Int)) (w : World) (hst : IntssAt w st) (htx : StrsAt w tx) (hca : IntssAt w ca) (htb : Tb w) :
    Calls Tryd.prog 3 #[.int .i64 n, .slice st.A st.xs.length st.c, .slice tx.A tx.xs.length tx.c, .slice ca.A ca.xs.length ca.c] w fun e w' => e = .returned (.bool true) ∧ Below w.heap.size w w' := by
  have hlen := hst.len
  have hlent := htx.len
  have hlenc := hca.len
  unfold maxLen at hlen hlent hlenc
  have HTb := hid (fun W (hW : Below w.heap.size w W) => htb.belowS hW)
  clear htb
  go_enter Tryd.func3, Tryd.ntmps3
  go_wp2_with fail
  refine (topone_any _).mono ?_
  rintro e w1 ⟨rfl, hb1⟩
  have Hb1 := hid hb1
  have hz1 := hb1.size
  clear hb1
  by_cases hn : n < 1 ∨ 6 < n
  · have HB := hid (mnew_bad n w1 hn)
    clear hn
    go_wp2_with fail
    refine HB.out.mono ?_
    rintro e w2 ⟨rfl, hb2⟩
    have Hb2 := hid (Below.step Hb1.out hb2 hz1)
    clear hb2
    go_wp2_with fail
    go_ret
    exact ⟨rfl, Hb2.out⟩
  obtain ⟨N, rfl⟩ := Int.eq_ofNat_of_zero_le (show 0 ≤ n by omega)
  have HNw := hid (mnew_ok N w1 (by omega) (by omega))
  have hN1 : ¬ (N : Int) < 1 := by omega
  have hN6 : ¬ (6 : Int) < (N : Int) := by omega
  clear hn
  go_wp2_with fail
  refine HNw.out.mono ?_
  rintro e w2 ⟨vm, rfl, hNr⟩
  obtain ⟨m, rfl, hM, hb2⟩ := hNr.meshW
  have Hb2 := hid (Below.step Hb1.out hb2 hz1)
  have hz2 := hb2.size
  have HM2 := hid hM
  clear hM hb2 hNr HNw
  go_upto_block 0 with fail
  go_cut [] (fun wx => ∃ (D : List E) (C : List (List E)), C.length = N ∧ (∀ c ∈ C, PosC c) ∧ MeshW w1.heap.size wx m D C (fun i => i < w1.heap.size) ∧ Below w.heap.size w wx)
  case first =>
    go_wp2_with fail
    go_loopw [12] (fun i wr => ∃ (k : Nat) (D : List E) (C : List (List E)), k ≤ 30 ∧ i = .int .i64 k ∧ C.length = N ∧ (∀ c ∈ C, PosC c) ∧ MeshW w1.heap.size wr m D C (fun i => i < w1.heap.size) ∧ Below w.heap.size w wr ∧ w1.heap.size ≤ wr.heap.size) (fun i _ => 30 - (intOf i).toNat)
    case atStart => exact ⟨0, [], List.replicate N [], by omega, rfl, List.length_replicate, replicate_pos N, HM2.out, Hb2.out, hz2⟩
    case round =>
      obtain ⟨n, D, C, hn, rfl, hCl, hCp, hM, hbr, hz1r⟩ := hrel
      clear HM2
      have HCl := hid hCl
      have HCp := hid hCp
      have HM := hid hM
      have Hbd := hid hbr
      obtain ⟨wd, rfl⟩ : ∃ wd : World, wd = wr := ⟨_, rfl⟩
      clear hCl hCp hM hbr
      by_cases hcond : n < st.xs.length ∧ n < 30
      · obtain ⟨hn1, hn2⟩ := hcond
        obtain ⟨b, off, hA, -⟩ := hst.row (by omega)
        rw [hA]
        have HAst := hid hA
        clear hA
        go_upto_if 76 with fail
        go_cut [13] (fun t wx => (∃ x : ByteArray, x.size ≤ maxLen ∧ t = .string x) ∧ wx = wd)
        case first =>
          by_cases hnt : n < tx.xs.length
          · obtain ⟨b2, off2, hA2, hb2, hc2⟩ := htx.row (by omega)
            have hx := (Hbd.out.cell (p := ⟨b2, off2 + n, none⟩) hb2).trans (hc2 n hnt)
            have hxg := htx.each _ (List.getElem_mem hnt)
            have Hxg := hid hxg
            generalize tx.xs[n] = x at *
            have HA2 := hid hA2
            rw [hA2]
            clear hA2 hc2 hxg
            go_wp2_with fail
            rw [← HA2.out]
            go_meet
            exact ⟨⟨x, Hxg.out, rfl⟩, rfl⟩
          · have hnt' : ¬ ((n : Int) < (tx.xs.length : Int)) := by omega
            go_wp2_with fail
            go_meet
            exact ⟨⟨ByteArray.mk #[], Nat.zero_le _, rfl⟩, rfl⟩
        case rest =>
        as_aux_lemma =>
        obtain ⟨⟨tt, htt, rfl⟩, hwc⟩ := hcut
        obtain rfl : wd = wc := hwc.symm
        have Htt := hid htt
        clear htt
        by_cases h2 : st.xs[n].xs.length = 2
        · as_aux_lemma =>
          obtain ⟨b2, off2, c, x0, x1, hbb, hbb2, hRow⟩ := rowTwo hst HAst.out hn1 h2
          obtain ⟨r0, r1, r2⟩ := hRow wd Hbd.out
          clear h2 hRow
          have HPt := hid (fun W (hW : Below wd.heap.size wd W) => mputW x0 x1 tt Htt.out W (HM.out.belowS hW) (fun i hi => by have := hW.size; omega) (Nat.le_trans hz1r hW.size))
          have HPp := hid (put_pos HM.out.deeds HM.out.cac HCp.out (node := x0) (key := x1) (t := tt))
          have hl6 : (if (mdoR C.length D x0 (rput D x1 tt)).1.2 = 0 then learnC C x0.toNat x1 (mdoR C.length D x0 (rput D x1 tt)).2 else C).length = C.length := by
            split
            · unfold learnC; rw [List.length_set]
            · rfl
          have Hl6 := hid hl6
          generalize mdoR C.length D x0 (rput D x1 tt) = R at *
          obtain ⟨⟨e1, e2⟩, D2⟩ := R
          simp only at HPt HPp Hl6
          clear hl6
          go_upto_region 14 with fail
          have hd : Below wd.heap.size wd wd.drew := (Below.refl _ _).drew
          have Hd := hid hd
          clear hd
          go_still_tail 14, (by kernel_rfl)
          change wpList _ _ _ _ _ wd.drew
          have HPd := hid (HPt.out wd.drew Hd.out)
          clear r0 r1 r2 HPt
          generalize wd.drew = w3 at *
          go_wp2_with fail
          refine HPd.out.mono ?_
          rintro e w6 ⟨rfl, hM6, hF6⟩
          have hb3 := Below.step Hbd.out Hd.out Hbd.out.size
          have Hb6 := hid (hb3.trans (hF6.below0 hb3.size (fun i hi => by have := hi.1; omega)))
          have hz6 := hF6.size
          have hz3 := Hd.out.size
          have HM6 := hid hM6
          clear hM6 hF6 hb3 HPd
          go_wp2_with fail
          go_roundw
          case rel => exact ⟨n + 1, D2, _, by omega, by go_num, Hl6.out.trans HCl.out, HPp.out, HM6.out, Hb6.out, by omega⟩
          case measure => simp [intOf]; omega
        · obtain ⟨A, k, c, hk, hRow⟩ := rowNot hst HAst.out hn1 h2
          have r0 := hRow wd Hbd.out
          clear h2 hRow
          go_wp2_with fail
          go_roundw
          case rel => exact ⟨n + 1, D, C, by omega, by go_num, HCl.out, HCp.out, HM.out, Hbd.out, hz1r⟩
          case measure => simp [intOf]; omega
      · have hcc : (¬ (n : Int) < (st.xs.length : Int)) ∨ ((n : Int) < (st.xs.length : Int) ∧ ¬ (n : Int) < 30) := by omega
        clear hcond
        rcases hcc with h | ⟨h1, h2⟩
        · go_wp2_with fail
          go_meet
          exact ⟨D, C, HCl.out, HCp.out, HM.out, Hbd.out⟩
        · go_wp2_with fail
          go_meet
          exact ⟨D, C, HCl.out, HCp.out, HM.out, Hbd.out⟩
  case rest =>
  as_aux_lemma =>
  obtain ⟨D, C, hCl, hCp, hM, hbr⟩ := hcut
  obtain ⟨w4, rfl⟩ : ∃ w4 : World, w4 = wc := ⟨_, rfl⟩
  have HCp := hid hCp
  have HCl := hid hCl
  have HM4 := hid hM
  have HDd := hid hM.deeds
  have HCc := hid hM.cac
  have Hb4 := hid hbr
  have hz4 := hbr.size
  have hz14 : w1.heap.size ≤ w4.heap.size := by have := hM.lt; omega
  clear hM hbr HM2 hCl hCp
  go_upto_block 2 with fail
  obtain ⟨wa, hwa⟩ : ∃ W : World, W = w4.alloc (.cells (ints [0, 0, 0, 0, 0, 0, 0, 0]) 33) := ⟨_, rfl⟩
  rw [show (w4.alloc (.cells #[.int .i64 0, .int .i64 0, .int .i64 0, .int .i64 0, .int .i64 0, .int .i64 0, .int .i64 0, .int .i64 0] 33)) = wa from hwa.symm]
  have HBa := hid (show Blk wa w4.heap.size 33 (ints [0, 0, 0, 0, 0, 0, 0, 0]) by rw [hwa]; exact Blk.new _ _ _)
  have Hba := hid (show Below w4.heap.size w4 wa by rw [hwa]; exact (Below.refl _ _).alloc (Nat.le_refl _) _)
  have hza : wa.heap.size = w4.heap.size + 1 := by rw [hwa]; simp
  have HMa := hid ((HM4.out.avoid Hba.out).less (A' := fun i => i < w1.heap.size ∨ i = w4.heap.size) (fun i hi => hi.imp (fun h => h) (fun h => by omega)))
  have hzwa : w4.heap.size < wa.heap.size := by omega
  clear hwa hza
  go_cut [] (fun wx => ∃ nw : List Int, nw.length = 8 ∧ Blk wx w4.heap.size 33 (ints nw) ∧ NewR N (V0of C) N (fun k => nw.getD k 0) ∧ Fr (fun i => i = w4.heap.size) wa wx)
  case first =>
    go_wp2_with fail
    go_loopw [15] (fun i wr => ∃ (c : Nat) (nw : List Int), c ≤ N ∧ i = .int .i64 c ∧ nw.length = 8 ∧ Blk wr w4.heap.size 33 (ints nw) ∧ NewR N (V0of C) c (fun k => nw.getD k 0) ∧ Fr (fun i => i = w4.heap.size) wa wr) (fun i _ => N - (intOf i).toNat)
    case atStart => exact ⟨0, [0, 0, 0, 0, 0, 0, 0, 0], Nat.zero_le _, rfl, rfl, HBa.out, fun k hk => ⟨by match k, hk with | 0, _ | 1, _ | 2, _ | 3, _ | 4, _ | 5, _ | 6, _ | 7, _ => exact Int.le_refl 0, fun j hj => by omega, .inl (by match k, hk with | 0, _ | 1, _ | 2, _ | 3, _ | 4, _ | 5, _ | 6, _ | 7, _ => rfl)⟩, Fr.refl _ _⟩
    case round =>
      obtain ⟨c, nw, hc, rfl, hl8, hB, hNR, hF⟩ := hrel
      obtain ⟨wk, rfl⟩ : ∃ wk : World, wk = wr := ⟨_, rfl⟩
      have HF := hid hF
      have HNR := hid hNR
      have HB := hid hB
      have hzk := hF.size
      have Hl8 := hid hl8
      by_cases hlc : c < N
      · have hMk := HMa.out.fr hF (fun i hi => .inr hi)
        have HCa := hid (mcacheW c wk hMk)
        rw [HCl.out, show inM N (c : Int) = true from inM_true.2 ⟨by omega, by omega⟩, if_pos rfl, if_pos rfl, errV_zero, Int.toNat_natCast] at HCa
        have hcd := HCc.out _ (getD_memD [] (show c < C.length by rw [HCl.out]; exact hlc))
        have HV0 := hid (show ∀ k : Nat, k < 8 → V0of C c k = verK (C.getD c []) k from fun k hk => rfl)
        generalize hV : V0of C = V0 at *
        generalize C.getD c [] = L at *
        have HCd := hid hcd
        clear hcd hMk hF hNR hB hl8 hV
        go_wp2_with fail
        refine HCa.out.mono ?_
        rintro e w7 ⟨⟨y, rfl, rfl, hyo⟩, hb7⟩
        have HF7 := hid (HF.out.stepB hb7)
        have hg7 : ∀ i, foot y.val = some i → wk.heap.size ≤ i := fun i hi => (hyo.1.lt hi).1
        have HEs := hid (fun W (hW : Fr (fun i => i = w4.heap.size) w7 W) => OwnC.es (⟨hyo.1.fr hW (fun i hi e => by have := hg7 i hi; omega), hyo.2⟩ : OwnC wk.heap.size W y))
        have HB7 := hid (HB.out.belowS hb7)
        have hly := hyo.es.len
        unfold maxLen at hly
        have hz7 := hb7.size
        clear hyo hb7 HCa hg7
        go_wp2_with fail
        go_loopw [18] (fun i wr => ∃ (j : Nat) (nw : List Int), j ≤ y.xs.length ∧ i = .int .i64 j ∧ NewS N V0 c y.xs j nw ∧ Blk wr w4.heap.size 33 (ints nw) ∧ Fr (fun i => i = w4.heap.size) w7 wr) (fun i _ => y.xs.length - (intOf i).toNat)
        case atStart => exact ⟨0, nw, Nat.zero_le _, rfl, NewS.start Hl8.out HNR.out _, HB7.out, Fr.refl _ _⟩
        case round =>
          clear HB7 HNR HB Hl8
          obtain ⟨j, nw, hj, rfl, hS, hB, hF⟩ := hrel
          obtain ⟨wj, rfl⟩ : ∃ wj : World, wj = wr := ⟨_, rfl⟩
          have HS := hid hS
          have Hfj := hid hF
          have HBj := hid hB
          have hzj := hF.size
          by_cases hlj : j < y.xs.length
          · as_aux_lemma =>
            obtain ⟨g, off, hA, hgl, hcells⟩ := (HEs.out wj hF).row (by omega)
            obtain ⟨k0, k1, -, -, -⟩ := hcells j hlj
            have htr := HCd.out.2 _ (getD_memD E.zero hlj)
            have hkb := keyB_true.1 htr.1
            have hput := hid (fun hv => hS.put hlj hlc HCd.out.1 HV0.out hkb hv)
            have hskip := hid (fun hv => hS.skip hlj hv)
            generalize y.xs.getD j E.zero = x at *
            obtain ⟨z0, z1, z2, z3, z4⟩ := x
            simp only at k0 k1 hkb hput hskip
            obtain ⟨kk, rfl⟩ := Int.eq_ofNat_of_zero_le hkb.1
            rw [Int.toNat_natCast] at hput hskip
            have hk8 : kk < 8 := by omega
            have hcell : wj.cell? ⟨w4.heap.size, kk, none⟩ = some (.int .i64 (nw.getD kk 0)) := (hB.cell kk).trans (ints_get nw kk (by rw [hS.1]; exact hk8))
            have hfrz := hB.frozen kk
            have hlB := hB.lt
            have hn0 : ¬ (kk : Int) < 0 := by omega
            have hn7 : ¬ (7 : Int) < (kk : Int) := by omega
            have hk8' : (kk : Int) < 8 := by omega
            have hBp := hB.put kk (.int .i64 z1)
            rw [ints_set] at hBp
            have HBp := hid hBp
            have HFp := hid (Fr.setCell (S := fun i => i = w4.heap.size) hF (p := ⟨w4.heap.size, kk, none⟩) (.inl rfl) (.int .i64 z1))
            generalize hx : nw.getD kk 0 = x at *
            have hlj' : (j : Int) < (y.xs.length : Int) := by omega
            rw [hA]
            clear hA hcells htr hS hF hB hBp hx hkb
            by_cases hgt : x < z1
            · have Hput := hid (hput.out hgt)
              clear hput hskip
              go_wp2_with fail
              go_quiet (fail)
              go_wp2_with fail
              generalize hq : wj.drewN _ = wq
              have k0 : wq.cell? ⟨g, off + j * 5, none⟩ = some (.int .i64 kk) := by rw [← hq]; exact k0
              have k1 : wq.cell? ⟨g, off + j * 5 + 1, none⟩ = some (.int .i64 z1) := by rw [← hq]; exact k1
              have hcell : wq.cell? ⟨w4.heap.size, kk, none⟩ = some (.int .i64 x) := by rw [← hq]; exact hcell
              have hfrz : wq.frozen? ⟨w4.heap.size, kk, none⟩ = false := by rw [← hq]; exact hfrz
              have hlB : w4.heap.size < wq.heap.size := by rw [← hq]; exact hlB
              have hgl : g < wq.heap.size := by rw [← hq]; exact hgl
              have Hq := hid hq
              clear hq
              go_still_tail 11, (by kernel_rfl)
              go_wp2_with fail
              go_roundw
              case rel => rw [← Hq.out]; exact ⟨j + 1, _, by omega, by go_num, Hput.out, HBp.out, (HFp.out.drewN _).drew⟩
              case measure => simp [intOf]; omega
            · have Hskip := hid (hskip.out (by omega))
              clear hput hskip
              go_wp2_with fail
              go_quiet (fail)
              go_wp2_with fail
              go_roundw
              case rel => exact ⟨j + 1, nw, by omega, by go_num, Hskip.out, HBj.out, Hfj.out.drewN _⟩
              case measure => simp [intOf]; omega
          · obtain rfl : j = y.xs.length := by omega
            have hdn := HS.out.done HV0.out
            have hF2 := HF7.out.step hF
            have Hdn := hid hdn
            have HF2 := hid hF2
            have Hl8 := hid hS.1
            clear hS hF hB hdn hF2
            go_wp2_with fail
            go_roundw
            case rel => exact ⟨c + 1, nw, by omega, by go_num, Hl8.out, HBj.out, Hdn.out, HF2.out⟩
            case measure => simp [intOf]; omega
      · obtain rfl : c = N := by omega
        clear hF hNR hB hl8
        go_wp2_with fail
        go_meet
        exact ⟨nw, Hl8.out, HB.out, HNR.out, HF.out⟩
  case rest =>
  as_aux_lemma =>
  obtain ⟨nw, hl8, hB, hNR, hF⟩ := hcut
  obtain ⟨w5, rfl⟩ : ∃ w5 : World, w5 = wc := ⟨_, rfl⟩
  have hb45 : Below w4.heap.size w4 w5 := Hba.out.trans (hF.below (B := w4.heap.size) (by omega) (fun i hi e => by omega))
  have hb5 := Below.step Hb4.out hb45 hz4
  have HM5 := hid (HM4.out.avoid hb45)
  have HB5 := hid hB
  have HNR := hid hNR
  have Hl8 := hid hl8
  have Hb5 := hid hb5
  have Hb45 := hid hb45
  have hz5 := hb5.size
  have hz45 := hb45.size
  have HV0p := hid (fun j k => V0of_pos HDd.out HCc.out j k)
  clear hB hNR hF hl8 hb45 hb5 HBa Hba HMa hzwa
  have HDn := hid (gdone_any N ca w5 (hca.stays Hb5.out))
  obtain ⟨ev, hev⟩ : ∃ ev, errV (chkG N ca.xs) = ev := ⟨_, rfl⟩
  rw [hev] at HDn
  have Hev := hid hev
  clear hev
  go_wp2_with fail
  refine HDn.out.mono ?_
  rintro e w6 ⟨rfl, hb6⟩
  have Hb56 := hid hb6
  have hz56 := hb6.size
  clear hb6 HDn
  go_upto_region 30 with fail
  go_cut [166] (fun b wx => (∃ bb : Bool, b = .bool bb ∧ (bb = true ↔ ¬ chkG N ca.xs = 0)) ∧ wx = w6)
  case first =>
    by_cases h0 : chkG N ca.xs = 0
    · obtain rfl : ev = .nilIface := by rw [← Hev.out, h0, errV_zero]
      have H0 := hid h0
      clear h0
      go_wp2_with fail
      go_meet
      exact ⟨⟨false, rfl, by simp [H0.out]⟩, rfl⟩
    · obtain ⟨cv, hcv⟩ : ∃ cv, ev = .iface 59 cv := ⟨_, by rw [← Hev.out, errV_ne h0]⟩
      subst hcv
      have H0 := hid h0
      clear h0
      go_wp2_with fail
      go_meet
      exact ⟨⟨true, rfl, by simp [H0.out]⟩, rfl⟩
  case rest =>
  as_aux_lemma =>
  obtain ⟨⟨bb, rfl, hbb⟩, hwc⟩ := hcut
  obtain rfl : w6 = wc := hwc.symm
  have Hbb := hid hbb
  clear hbb
  go_upto_if 166 with fail
  go_cut [3, 11, 19] (fun c e d wx => ∃ (cl : SlV (SlV Int)) (dd : Bool), c = .slice cl.A cl.xs.length cl.c ∧ e = .nilIface ∧ d = .bool dd ∧ IntssAt wx cl ∧ ((∀ W, Below w.heap.size w W → IntssAt W cl) ∨ NewI w5.heap.size cl) ∧ chkG N cl.xs = 0 ∧ (dd = true → doneB N cl.xs = true) ∧ Below w5.heap.size w5 wx)
  case first =>
    rcases bb with _ | _
    · as_aux_lemma =>
      have h0 : chkG N ca.xs = 0 := Decidable.byContradiction fun h => by
        have := Hbb.out.2 h
        cases this
      obtain rfl : ev = .nilIface := by rw [← Hev.out, h0, errV_zero]
      have H0 := hid h0
      clear h0
      go_wp2_with fail
      go_meet
      exact ⟨ca, _, rfl, rfl, rfl, hca.stays (Below.step Hb5.out Hb56.out hz5), .inl (fun W hW => hca.stays hW), H0.out, fun h => h, Hb56.out⟩
    · as_aux_lemma =>
      have HPl := hid (plan_any N (by omega) (by omega) w6)
      go_wp2_with fail
      refine HPl.out.mono ?_
      rintro e w7 ⟨cl, rfl, hcl, hcx, hb7, hnew⟩
      obtain ⟨g1, g2, -, -⟩ := plan_good (show 1 ≤ N by omega) (show N ≤ 6 by omega) hcx
      have Hcl := hid hcl
      have Hnew := hid (show NewI w5.heap.size cl from ⟨fun h b off hA => Nat.le_trans hz56 (hnew.1 h b off hA), fun x hx b off hA => Nat.le_trans hz56 (hnew.2 x hx b off hA)⟩)
      have Hb57 := hid (Below.step Hb56.out hb7 hz56)
      have Hg := hid (And.intro g1 g2)
      clear hcl hcx hb7 hnew g1 g2 HPl
      go_wp2_with fail
      go_meet
      exact ⟨cl, true, rfl, rfl, rfl, Hcl.out, .inr Hnew.out, Hg.out.1, fun _ => Hg.out.2, Hb57.out⟩
  case rest =>
  as_aux_lemma =>
  obtain ⟨cl, dd, rfl, rfl, rfl, hcl, hkeep, hg0, hdd, hb56⟩ := hcut
  clear Hb56 hz56 Hev
  obtain ⟨w6, rfl⟩ : ∃ w6 : World, w6 = wc := ⟨_, rfl⟩
  have hz56 := hb56.size
  have Hok := hid (chkG_ok hg0).2.2
  have Hg0 := hid hg0
  have Hdd := hid hdd
  have hlc := hcl.len
  unfold maxLen at hlc
  have Hb6 := hid (Below.step Hb5.out hb56 hz5)
  have hM6 : MeshW w1.heap.size w6 m D C (fun i => i < w1.heap.size ∨ (w4.heap.size ≤ i ∧ i < w6.heap.size)) := (HM5.out.avoid hb56).less (fun i hi => by
    rcases hi with hi | hi
    · exact .inl (.inl hi)
    · by_cases h : i < w5.heap.size
      · exact .inl (.inr ⟨hi.1, h⟩)
      · exact .inr ⟨by omega, hi.2⟩)
  have HB6 := hid (HB5.out.belowS hb56)
  obtain ⟨A, hA6⟩ : ∃ A : Nat → Prop, A = (fun i => i < w1.heap.size ∨ (w4.heap.size ≤ i ∧ i < w6.heap.size)) := ⟨_, rfl⟩
  have hlw : w.heap.size ≤ w1.heap.size := hz1
  have HLv := hid (fun W (hF : Fr (MTouch w1.heap.size A) w6 W) => show IntssAt W cl from by
    rcases hkeep with hk | hk
    · exact hk W (Hb6.out.trans (hF.below0 Hb6.out.size (fun i hi => Nat.le_trans hlw hi.1)))
    · exact hcl.fr hF (fun h b off hA hs => by
        have h1 := hk.1 h b off hA
        obtain ⟨b', off', hA', hb', -⟩ := hcl.row h
        rw [hA] at hA'
        cases hA'
        exact hs.2 (by rw [hA6]; exact .inr ⟨by omega, hb'⟩)) (fun x hx b off hA hs => by
        have h1 := hk.2 x hx b off hA
        obtain ⟨i, hi, rfl⟩ := List.mem_iff_getElem.1 hx
        obtain ⟨b', off', hA', hb', -⟩ := (hcl.each i hi).row (by have := (Hok.out _ (List.getElem_mem hi)).1; omega)
        rw [hA] at hA'
        cases hA'
        exact hs.2 (by rw [hA6]; exact .inr ⟨by omega, hb'⟩)))
  have HAl := hid (show ∀ i, A i → i < w6.heap.size from fun i hi => by rw [hA6] at hi; omega)
  have HA4 := hid (show A w4.heap.size from by rw [hA6]; exact .inr ⟨by omega, by have := HB6.out.lt; omega⟩)
  rw [← hA6] at hM6
  have HM6 := hid hM6
  have hz16 : w1.heap.size ≤ w6.heap.size := by omega
  clear hcl hkeep hg0 hdd hb56 hM6 hA6 HM5 HB5 HM4
  go_upto_block 6 with fail
  go_cut [] (fun wx => (∃ C', ConvS N (V0of C) (gPlay (initN N) cl.xs) C' ∧ (∀ c ∈ C', PosC c) ∧ MeshW w1.heap.size wx m D C' A) ∧ Fr (MTouch w1.heap.size A) w6 wx)
  case first =>
    go_wp2_with fail
    go_loopw [20] (fun i wr => ∃ (j : Nat) (C' : List (List E)), j ≤ cl.xs.length ∧ i = .int .i64 j ∧ ConvS N (V0of C) (gPlay (initN N) (cl.xs.take j)) C' ∧ (∀ c ∈ C', PosC c) ∧ MeshW w1.heap.size wr m D C' A ∧ Fr (MTouch w1.heap.size A) w6 wr) (fun i _ => cl.xs.length - (intOf i).toNat)
    case atStart => exact ⟨0, C, Nat.zero_le _, rfl, ConvS.start HCl.out, HCp.out, HM6.out, Fr.refl _ _⟩
    case round =>
      clear HM6
      obtain ⟨j, C', hj, rfl, hCv, hCp', hM, hF⟩ := hrel
      obtain ⟨wj, rfl⟩ : ∃ wj : World, wj = wr := ⟨_, rfl⟩
      have HCv := hid hCv
      have HCq := hid hCp'
      have HM := hid (fun W (hW : Below wj.heap.size wj W) => hM.belowS hW)
      have HF := hid hF
      have HCd' := hid hM.cac
      have hzj := hF.size
      have Hbj := hid (Hb6.out.trans (hF.below0 Hb6.out.size (fun i hi => Nat.le_trans hlw hi.1)))
      clear hCv hCp' hM hF
      by_cases hlj : j < cl.xs.length
      · have hcj := HLv.out wj HF.out
        obtain ⟨b, off, hA, -⟩ := hcj.row (by omega)
        obtain ⟨b2, off2, c, x0, x1, hbb, hbb2, hpair, hx0, hx1, hne, hRow⟩ := rowAt hcj hA hlj (Hok.out _ (List.getElem_mem hlj))
        have Hpair := hid hpair
        have HRow := hid hRow
        have hx0' : x0 < N := by omega
        have hx1' : x1 < N := by omega
        have hcl0 := HCv.out.len
        have m0 := getD_memD (l := C') (a := x0) [] (by omega)
        have m1 := getD_memD (l := C') (a := x1) [] (by omega)
        have Hm0 := hid m0
        have Hm1 := hid m1
        have HC0 := hid (mcacheW x0 wj (HM.out wj (Below.refl _ _)))
        have HC1 := hid (fun W (hW : Below wj.heap.size wj W) => mcacheW x1 W (HM.out W hW))
        rw [hcl0, show inM N (x0 : Int) = true from inM_true.2 ⟨by omega, by omega⟩, if_pos rfl, if_pos rfl, errV_zero, Int.toNat_natCast] at HC0
        rw [hcl0, show inM N (x1 : Int) = true from inM_true.2 ⟨by omega, by omega⟩] at HC1
        simp only [if_true, errV_zero, Int.toNat_natCast] at HC1
        have HSw := hid (fun W (hW : Below wj.heap.size wj W) => mswapW x0 x1 W (HM.out W hW) (fun i hi => by have := HAl.out i hi; have := hW.size; omega) (by have := hW.size; omega) (HTb.out W (Below.step Hbj.out hW Hbj.out.size)))
        have hsw : mswapR C' x0 x1 = (0, (C'.set x0 (pairR (C'.getD x0 []) (C'.getD x1 [])).1).set x1 (pairR (C'.getD x0 []) (C'.getD x1 [])).2.1) := by
          rw [mswapR, hcl0, if_pos ⟨inM_true.2 ⟨by omega, by omega⟩, inM_true.2 ⟨by omega, by omega⟩⟩, if_neg (by omega), Int.toNat_natCast, Int.toNat_natCast]
        rw [hsw] at HSw
        simp only [errV_zero] at HSw
        rw [hA]
        have HcA := hid hA
        obtain ⟨r0, r1, r2⟩ := HRow.out wj (Below.refl _ _)
        have hjl : (j : Int) < (cl.xs.length : Int) := by omega
        clear hcj hA hpair hRow hsw hcl0 m0 m1
        go_wp2_with fail
        refine HC0.out.mono ?_
        rintro e w7 ⟨⟨y, rfl, hyx, hyo⟩, hb7⟩
        have Hb7 := hid hb7
        have hz7 := hb7.size
        have HyE := hid (fun W (hW : Below w7.heap.size w7 W) => (hyo.belowS hW).es)
        have Hyx := hid hyx
        have HC1' := hid (HC1.out w7 hb7)
        obtain ⟨r0, r1, r2⟩ := HRow.out w7 hb7
        clear hyx hyo hb7 HC0 HC1
        go_wp2_with fail
        refine HC1'.out.mono ?_
        rintro e w8 ⟨⟨z, rfl, hzx, hzo⟩, hb8⟩
        have Hb78 := hid hb8
        have Hb8 := hid (Below.step Hb7.out hb8 hz7)
        have hz8 := hb8.size
        have HzE := hid (fun W (hW : Below w8.heap.size w8 W) => (hzo.belowS hW).es)
        have HLk := hid (slacks_any y z w8 (HyE.out w8 hb8) hzo.es (HTb.out w8 (Below.step Hbj.out (Below.step Hb7.out hb8 hz7) Hbj.out.size)))
        have hcy : CacheD D y.xs := by rw [Hyx.out]; exact HCd'.out _ Hm0.out
        have hcz : CacheD D z.xs := by rw [hzx]; exact HCd'.out _ Hm1.out
        have hpy : PosC y.xs := by rw [Hyx.out]; exact HCq.out _ Hm0.out
        have hpz : PosC z.xs := by rw [hzx]; exact HCq.out _ Hm1.out
        have hd0 : diffR y.xs z.xs = (partT y.xs z.xs 1, 0) := by rw [diffR, if_pos hcy.1, if_pos hcz.1]
        rw [hd0] at HLk
        unfold LacksR at HLk
        simp only [errV_zero] at HLk
        have Hzx := hid hzx
        have Hcy := hid hcy
        have Hcz := hid hcz
        have Hpy := hid hpy
        have Hpz := hid hpz
        clear hzx hzo hb8 HC1' r0 r1 r2 hcy hcz hpy hpz hd0
        go_wp2_with fail
        refine HLk.out.mono ?_
        rintro e w9 ⟨q, rfl, ⟨hqx, -⟩, hqA, hb9⟩
        have Hqx := hid hqx
        have HqA := hid (fun W (hW : Below w9.heap.size w9 W) => hqA.stays0 hW)
        have Hb89 := hid hb9
        have hz9 := hb9.size
        have Hb9 := hid (Below.step Hb8.out hb9 Hb8.out.size)
        have Hw9 := hid (Below.step Hbj.out (Below.step Hb8.out hb9 Hb8.out.size) Hbj.out.size)
        clear hqx hqA hb9 HLk
        go_upto_block 8 with fail
        go_cut [] (fun wx => (∀ k : Nat, k < 8 → ¬ (k : Int) ∈ q.xs → verK y.xs k = verK z.xs k) ∧ Below w9.heap.size w9 wx)
        case first =>
          go_wp2_with fail
          go_loopw [27] (fun i wr => ∃ kk : Nat, kk ≤ 8 ∧ i = .int .i64 kk ∧ (∀ k : Nat, k < kk → ¬ (k : Int) ∈ q.xs → verK y.xs k = verK z.xs k) ∧ Below w9.heap.size w9 wr) (fun i _ => 8 - (intOf i).toNat)
          case atStart => exact ⟨0, Nat.zero_le _, rfl, fun k hk => by omega, Below.refl _ _⟩
          case round =>
            obtain ⟨kk, hkk, rfl, hall, hbk⟩ := hrel
            obtain ⟨wk, rfl⟩ : ∃ wk : World, wk = wr := ⟨_, rfl⟩
            have Hall := hid hall
            have Hbk := hid hbk
            have hzk := hbk.size
            by_cases hk8 : kk < 8
            · have hb8k : Below w8.heap.size w8 wk := Below.step Hb89.out hbk hz9
              have HG1 := hid (get_any y kk wk (HyE.out wk (Below.step Hb78.out hb8k hz8)).entries)
              have HG2 := hid (fun W (hW : Below wk.heap.size wk W) => get_any z kk W (HzE.out W (Below.step hb8k hW hb8k.size)).entries)
              have HIn := hid (fun W (hW : Below wk.heap.size wk W) => in_any q kk W (HqA.out W (Below.step hbk hW hzk)))
              have hv1 := getR_ver Hcy.out.1 hk8
              have hv2 := getR_ver Hcz.out.1 hk8
              have hlk := hid (fun hv => get_like Hcy.out Hcz.out Hpy.out Hpz.out hk8 hv)
              have he1 := getR_err Hcy.out.1 hk8
              generalize getR y.xs kk = P at *
              generalize getR z.xs kk = Q at *
              obtain ⟨⟨p0, p1, p2, p3, p4⟩, ep⟩ := P
              obtain ⟨⟨q0, q1, q2, q3, q4⟩, eq⟩ := Q
              simp only [E.val] at HG1 HG2 hlk hv1 hv2 he1
              have Hv1 := hid hv1
              have Hv2 := hid hv2
              clear hb8k hall hbk hv1 hv2
              by_cases hin : (kk : Int) ∈ q.xs
              · as_aux_lemma =>
                have hinT := inL_true.2 hin
                rw [hinT] at HIn
                have Hnext := hid (show ∀ k : Nat, k < kk + 1 → ¬ (k : Int) ∈ q.xs → verK y.xs k = verK z.xs k from fun k hk hno => by
                  by_cases h : k = kk
                  · subst h; exact absurd hin hno
                  · exact Hall.out k (by omega) hno)
                obtain ⟨e1, he1'⟩ : ∃ e1, errV ep = e1 := ⟨_, rfl⟩
                obtain ⟨e2, he2'⟩ : ∃ e2, errV eq = e2 := ⟨_, rfl⟩
                rw [he1'] at HG1
                rw [he2'] at HG2
                clear he1' he2' hinT hin he1 hlk
                go_wp2_with fail
                refine HG1.out.mono ?_
                rintro e wa ⟨rfl, hba⟩
                have hza := hba.size
                have Hba := hid (hba.alloc hza (.cells #[.int .i64 p0, .int .i64 p1, .int .i64 p2, .bool p3, .string p4] 38))
                have HG2' := hid (HG2.out _ Hba.out)
                clear hba HG1 HG2
                go_wp2_with fail
                refine HG2'.out.mono ?_
                rintro e wb ⟨rfl, hbb⟩
                have hzb := hbb.size
                rw [World.size_alloc] at hzb
                have Hbb := hid ((Below.step Hba.out hbb (by rw [World.size_alloc]; omega)).alloc (by omega) (.cells #[.int .i64 q0, .int .i64 q1, .int .i64 q2, .bool q3, .string q4] 38))
                have HIn' := hid (HIn.out _ Hbb.out)
                clear hbb HG2' HIn
                go_wp2_with fail
                refine HIn'.out.mono ?_
                rintro e wc ⟨rfl, rfl⟩
                go_upto_region 51 with fail
                go_quiet (fail)
                go_wp2_with fail
                go_roundw
                case rel => exact ⟨kk + 1, by omega, by go_num, Hnext.out, Below.step Hbk.out (Below.manyDrew Hbb.out _) hzk⟩
                case measure => simp [intOf]; omega
              · have hinF : inL (kk : Int) q.xs = false := inL_false.2 hin
                rw [hinF] at HIn
                by_cases hv : p1 = q1
                · as_aux_lemma =>
                  obtain ⟨-, g2, g3, g4⟩ := hlk.out (by rw [← Hv1.out, ← Hv2.out]; exact hv)
                  have Hnext := hid (show ∀ k : Nat, k < kk + 1 → ¬ (k : Int) ∈ q.xs → verK y.xs k = verK z.xs k from fun k hk hno => by
                    by_cases h : k = kk
                    · subst h; rw [← Hv1.out, ← Hv2.out]; exact hv
                    · exact Hall.out k (by omega) hno)
                  subst hv g2 g3 g4
                  clear Hv1 Hv2 hlk hinF hin
                  rcases he1 with rfl | rfl
                  all_goals
                    first
                      | rw [errV_zero] at HG1 HG2
                      | (rw [errV_ne (show (5 : Int) ≠ 0 by decide)] at HG1; rw [errV_ne (show (5 : Int) ≠ 0 by decide)] at HG2)
                    go_wp2_with fail
                    refine HG1.out.mono ?_
                    rintro e wa ⟨rfl, hba⟩
                    have hza := hba.size
                    have Hba := hid (hba.alloc hza (.cells #[.int .i64 p0, .int .i64 p1, .int .i64 p2, .bool p3, .string p4] 38))
                    have HB1 := hid (Blk.new wa 38 #[.int .i64 p0, .int .i64 p1, .int .i64 p2, .bool p3, .string p4])
                    have HG2' := hid (HG2.out _ Hba.out)
                    clear hba HG1 HG2
                    go_wp2_with fail
                    refine HG2'.out.mono ?_
                    rintro e wb ⟨rfl, hbb⟩
                    have hzb := hbb.size
                    rw [World.size_alloc] at hzb
                    have Hbb := hid ((Below.step Hba.out hbb (by rw [World.size_alloc]; omega)).alloc (by omega) (.cells #[.int .i64 q0, .int .i64 p1, .int .i64 q2, .bool p3, .string p4] 38))
                    have HB1' := hid (HB1.out.belowS hbb)
                    have HIn' := hid (HIn.out _ Hbb.out)
                    clear hbb HG2' HIn
                    go_upto_region 50 with fail
                    obtain ⟨wc, hwc⟩ : ∃ W : World, W = wb.alloc (.cells #[.int .i64 q0, .int .i64 p1, .int .i64 q2, .bool p3, .string p4] 38) := ⟨_, rfl⟩
                    rw [← hwc]
                    have hB1 : Blk wc wa.heap.size 38 #[.int .i64 p0, .int .i64 p1, .int .i64 p2, .bool p3, .string p4] := by rw [hwc]; exact HB1'.out.alloc _
                    have hB2 : Blk wc wb.heap.size 38 #[.int .i64 q0, .int .i64 p1, .int .i64 q2, .bool p3, .string p4] := by rw [hwc]; exact Blk.new _ _ _
                    rw [← hwc] at Hbb HIn'
                    have c1 : wc.cell? ⟨wa.heap.size, 1, none⟩ = some (.int .i64 p1) := hB1.cell 1
                    have c3 : wc.cell? ⟨wa.heap.size, 3, none⟩ = some (.bool p3) := hB1.cell 3
                    have c4 : wc.cell? ⟨wa.heap.size, 4, none⟩ = some (.string p4) := hB1.cell 4
                    have d1 : wc.cell? ⟨wb.heap.size, 1, none⟩ = some (.int .i64 p1) := hB2.cell 1
                    have d3 : wc.cell? ⟨wb.heap.size, 3, none⟩ = some (.bool p3) := hB2.cell 3
                    have d4 : wc.cell? ⟨wb.heap.size, 4, none⟩ = some (.string p4) := hB2.cell 4
                    have hlc1 := hB1.lt
                    have hlc2 := hB2.lt
                    clear hwc hB1 hB2 HB1 HB1'
                    go_wp2_with fail
                    refine HIn'.out.mono ?_
                    rintro e wd ⟨rfl, rfl⟩
                    clear HIn'
                    have g1 : (p1 != p1) = false := by simp
                    have g3 : (p3 != p3) = false := by simp
                    go_upto_region 51 with fail
                    go_quiet (fail)
                    go_wp2_with fail
                    go_roundw
                    case rel => exact ⟨kk + 1, by omega, by go_num, Hnext.out, Below.step Hbk.out (Below.manyDrew Hbb.out _) hzk⟩
                    case measure => simp [intOf]; omega
                · as_aux_lemma =>
                  have hvn : (p1 != q1) = true := by rw [bne_iff_ne]; exact hv
                  obtain ⟨e1, he1'⟩ : ∃ e1, errV ep = e1 := ⟨_, rfl⟩
                  obtain ⟨e2, he2'⟩ : ∃ e2, errV eq = e2 := ⟨_, rfl⟩
                  rw [he1'] at HG1
                  rw [he2'] at HG2
                  clear he1' he2' hinF hin he1 hlk hv
                  go_wp2_with fail
                  refine HG1.out.mono ?_
                  rintro e wa ⟨rfl, hba⟩
                  have hza := hba.size
                  have Hba := hid (hba.alloc hza (.cells #[.int .i64 p0, .int .i64 p1, .int .i64 p2, .bool p3, .string p4] 38))
                  have HB1 := hid (Blk.new wa 38 #[.int .i64 p0, .int .i64 p1, .int .i64 p2, .bool p3, .string p4])
                  have HG2' := hid (HG2.out _ Hba.out)
                  clear hba HG1 HG2
                  go_wp2_with fail
                  refine HG2'.out.mono ?_
                  rintro e wb ⟨rfl, hbb⟩
                  have hzb := hbb.size
                  rw [World.size_alloc] at hzb
                  have Hbb := hid ((Below.step Hba.out hbb (by rw [World.size_alloc]; omega)).alloc (by omega) (.cells #[.int .i64 q0, .int .i64 q1, .int .i64 q2, .bool q3, .string q4] 38))
                  have HB1' := hid (HB1.out.belowS hbb)
                  have HIn' := hid (HIn.out _ Hbb.out)
                  clear hbb HG2' HIn
                  go_upto_region 50 with fail
                  obtain ⟨wc, hwc⟩ : ∃ W : World, W = wb.alloc (.cells #[.int .i64 q0, .int .i64 q1, .int .i64 q2, .bool q3, .string q4] 38) := ⟨_, rfl⟩
                  rw [← hwc]
                  have hB1 : Blk wc wa.heap.size 38 #[.int .i64 p0, .int .i64 p1, .int .i64 p2, .bool p3, .string p4] := by rw [hwc]; exact HB1'.out.alloc _
                  have hB2 : Blk wc wb.heap.size 38 #[.int .i64 q0, .int .i64 q1, .int .i64 q2, .bool q3, .string q4] := by rw [hwc]; exact Blk.new _ _ _
                  rw [← hwc] at Hbb HIn'
                  have c1 : wc.cell? ⟨wa.heap.size, 1, none⟩ = some (.int .i64 p1) := hB1.cell 1
                  have c3 : wc.cell? ⟨wa.heap.size, 3, none⟩ = some (.bool p3) := hB1.cell 3
                  have c4 : wc.cell? ⟨wa.heap.size, 4, none⟩ = some (.string p4) := hB1.cell 4
                  have d1 : wc.cell? ⟨wb.heap.size, 1, none⟩ = some (.int .i64 q1) := hB2.cell 1
                  have d3 : wc.cell? ⟨wb.heap.size, 3, none⟩ = some (.bool q3) := hB2.cell 3
                  have d4 : wc.cell? ⟨wb.heap.size, 4, none⟩ = some (.string q4) := hB2.cell 4
                  have hlc1 := hB1.lt
                  have hlc2 := hB2.lt
                  clear hwc hB1 hB2 HB1 HB1'
                  go_wp2_with fail
                  refine HIn'.out.mono ?_
                  rintro e wd ⟨rfl, rfl⟩
                  clear HIn'
                  go_upto_region 51 with fail
                  go_quiet (fail)
                  go_wp2_with fail
                  go_ret
                  exact ⟨rfl, Below.step Hw9.out (Below.step Hbk.out (Below.manyDrew Hbb.out _) hzk) Hw9.out.size⟩
            · obtain rfl : kk = 8 := by omega
              clear hall hbk
              go_wp2_with fail
              go_meet
              exact ⟨Hall.out, Hbk.out⟩
        case rest =>
        as_aux_lemma =>
        obtain ⟨hall, hb10⟩ := hcut
        obtain ⟨w10, rfl⟩ : ∃ w10 : World, w10 = wc := ⟨_, rfl⟩
        obtain ⟨s1, s2, s3⟩ := swap_ver HDd.out Hcy.out Hcz.out Hpy.out Hpz.out (fun k hk h => hall k hk (by rw [Hqx.out]; exact h))
        rw [Hyx.out, Hzx.out] at s1 s2 s3
        have Hstep := hid (show ConvS N (V0of C) (gPlay (initN N) (cl.xs.take (j + 1))) ((C'.set x0 (pairR (C'.getD x0 []) (C'.getD x1 [])).1).set x1 (pairR (C'.getD x0 []) (C'.getD x1 [])).2.1) from by
          rw [List.take_succ_eq_append_getElem hlj, gPlay_more, Hpair.out]
          exact HCv.out.step hx0' hx1' s3)
        have Hpos := hid (PosC.set (PosC.set HCq.out (k := x0) s1) (k := x1) s2)
        generalize (C'.set x0 (pairR (C'.getD x0 []) (C'.getD x1 [])).1).set x1 (pairR (C'.getD x0 []) (C'.getD x1 [])).2.1 = C2 at *
        have hbj10 := Below.step Hb9.out hb10 Hb9.out.size
        have Hbj10 := hid hbj10
        obtain ⟨r0, r1, r2⟩ := HRow.out w10 hbj10
        clear hall hb10 s1 s2 s3 hbj10
        go_upto_region 53 with fail
        have Hd := hid (show Below w10.heap.size w10 w10.drew from (Below.refl _ _).drew)
        go_still_tail 13, (by kernel_rfl)
        change wpList _ _ _ _ _ w10.drew
        have HbW := hid (Below.step Hbj10.out Hd.out Hbj10.out.size)
        have HSd := hid (HSw.out w10.drew HbW.out)
        clear r0 r1 r2 HSw Hd
        generalize w10.drew = w11 at *
        go_wp2_with fail
        refine HSd.out.mono ?_
        rintro e w12 ⟨rfl, hM12, hF12⟩
        have HM12 := hid hM12
        have HF12 := hid ((HF.out.stepB HbW.out).step hF12)
        clear hM12 hF12 HSd
        go_wp2_with fail
        go_roundw
        case rel => exact ⟨j + 1, C2, by omega, by go_num, Hstep.out, Hpos.out, HM12.out, HF12.out⟩
        case measure => simp [intOf]; omega
      · obtain rfl : j = cl.xs.length := by omega
        go_wp2_with fail
        go_meet
        exact ⟨⟨C', by rw [← List.take_length (l := cl.xs)]; exact HCv.out, HCq.out, HM.out wj (Below.refl _ _)⟩, HF.out⟩
  case rest =>
  as_aux_lemma =>
  obtain ⟨⟨C', hCv, hCp', hM⟩, hF⟩ := hcut
  obtain ⟨w7, rfl⟩ : ∃ w7 : World, w7 = wc := ⟨_, rfl⟩
  have hb7 := Hb6.out.trans (hF.below0 Hb6.out.size (fun i hi => Nat.le_trans hlw hi.1))
  have Hb7 := hid hb7
  have hB7 := HB6.out.fr hF (fun hs => hs.2 HA4.out)
  cases dd
  case false =>
    clear hCv hCp' hM hF hb7 hB7
    go_wp2_with fail
    go_ret
    exact ⟨rfl, Hb7.out⟩
  case true =>
  have hbits := done_bits (Hdd.out rfl) Hg0.out
  have Hver := hid (fun c (hc : c < N) k (hk : k < 8) => hCv.full hbits HNR.out HV0p.out hc hk)
  have HM7 := hid (fun W (hW : Below w7.heap.size w7 W) => hM.belowS hW)
  have HB7 := hid (fun W (hW : Below w7.heap.size w7 W) => hB7.belowS hW)
  have HCd7 := hid hM.cac
  have HCp7 := hid hCp'
  have hl7 := hCv.len
  have HC0 := hid (mcacheW 0 w7 hM)
  rw [hl7, show inM N (0 : Int) = true from inM_true.2 ⟨by omega, by omega⟩, if_pos rfl, if_pos rfl, errV_zero, show (0 : Int).toNat = 0 from rfl] at HC0
  have m0 := getD_memD (l := C') (a := 0) [] (by omega)
  have Hm0 := hid m0
  have hz7 := hb7.size
  have Hl7 := hid hl7
  clear hCv hCp' hM hF hb7 hB7 hbits m0 hl7 HM6 HCp HCl
  go_wp2_with fail
  refine HC0.out.mono ?_
  rintro e w8 ⟨⟨y, rfl, hyx, hyo⟩, hb8⟩
  have HyE := hid (fun W (hW : Below w8.heap.size w8 W) => (hyo.belowS hW).es)
  have Hb8 := hid hb8
  have hz8 := hb8.size
  have Hw8 := hid (Below.step Hb7.out hb8 hz7)
  have hcy : CacheD D y.xs := by rw [hyx]; exact HCd7.out _ Hm0.out
  have hpy : PosC y.xs := by rw [hyx]; exact HCp7.out _ Hm0.out
  have Hcy := hid hcy
  have Hpy := hid hpy
  have Hyx := hid hyx
  clear hyx hyo hb8 HC0 hcy hpy
  go_wp2_with fail
  go_loopw [35] (fun i wr => ∃ c : Nat, c ≤ N ∧ i = .int .i64 c ∧ Below w8.heap.size w8 wr) (fun i _ => N - (intOf i).toNat)
  case atStart => exact ⟨0, Nat.zero_le _, rfl, Below.refl _ _⟩
  case round =>
    obtain ⟨c, hc, rfl, hbk⟩ := hrel
    obtain ⟨wk, rfl⟩ : ∃ wk : World, wk = wr := ⟨_, rfl⟩
    have Hbk := hid hbk
    have hzk := hbk.size
    by_cases hlc : c < N
    · have hb7k := Below.step Hb8.out hbk hz8
      have HC1 := hid (mcacheW c wk (HM7.out wk hb7k))
      rw [Hl7.out, show inM N (c : Int) = true from inM_true.2 ⟨by omega, by omega⟩, if_pos rfl, if_pos rfl, errV_zero, Int.toNat_natCast] at HC1
      have Hm1 := hid (getD_memD (l := C') (a := c) [] (by rw [Hl7.out]; exact hlc))
      clear hbk hb7k
      go_wp2_with fail
      refine HC1.out.mono ?_
      rintro e w9 ⟨⟨z, rfl, hzx, hzo⟩, hb9⟩
      have hb89 := Below.step Hbk.out hb9 hzk
      have HzE := hid (fun W (hW : Below w9.heap.size w9 W) => (hzo.belowS hW).es)
      have hcz : CacheD D z.xs := by rw [hzx]; exact HCd7.out _ Hm1.out
      have hpz : PosC z.xs := by rw [hzx]; exact HCp7.out _ Hm1.out
      have hvz : ∀ k, k < 8 → verK z.xs (k : Nat) = nw.getD k 0 := fun k hk => by rw [hzx]; exact Hver.out c hlc k hk
      have hvy : ∀ k, k < 8 → verK y.xs (k : Nat) = nw.getD k 0 := fun k hk => by rw [Hyx.out]; exact Hver.out 0 (by omega) k hk
      have HLk := hid (slacks_any y z w9 (HyE.out w9 hb89) hzo.es (HTb.out w9 (Below.step Hw8.out hb89 Hw8.out.size)))
      have hd0 : diffR y.xs z.xs = (partT y.xs z.xs 1, 0) := by rw [diffR, if_pos Hcy.out.1, if_pos hcz.1]
      rw [hd0] at HLk
      unfold LacksR at HLk
      simp only [errV_zero] at HLk
      rw [like_part Hcy.out hcz Hpy.out hpz (fun k hk => by rw [hvy k hk, hvz k hk])] at HLk
      have Hb89 := hid hb89
      have Hcz := hid hcz
      have Hvz := hid hvz
      have hz9 := hb9.size
      have hz89 := hb89.size
      clear hzx hzo hb9 hb89 hcz hpz hvz hvy hd0 HC1
      go_wp2_with fail
      refine HLk.out.mono ?_
      rintro e w10 ⟨q, rfl, ⟨hqx, -⟩, -, hb10⟩
      have hq0 : q.xs.length = 0 := by rw [hqx]; rfl
      rw [hq0]
      have Hb10 := hid hb10
      have Hb810 := hid (Below.step Hb89.out hb10 hz89)
      have hz10 := hb10.size
      clear hb10 HLk hqx hq0
      go_wp2_with fail
      go_loopw [40] (fun i wr => ∃ kk : Nat, kk ≤ 8 ∧ i = .int .i64 kk ∧ Below w10.heap.size w10 wr) (fun i _ => 8 - (intOf i).toNat)
      case atStart => exact ⟨0, Nat.zero_le _, rfl, Below.refl _ _⟩
      case round =>
        obtain ⟨kk, hkk, rfl, hbq⟩ := hrel
        obtain ⟨wq, rfl⟩ : ∃ wq : World, wq = wr := ⟨_, rfl⟩
        have Hbq := hid hbq
        have hzq := hbq.size
        by_cases hk8 : kk < 8
        · as_aux_lemma =>
          have HG1 := hid (get_any z kk wq (HzE.out wq (Below.step Hb10.out hbq hz10)).entries)
          have hv1 := getR_ver Hcz.out.1 hk8
          rw [Hvz.out kk hk8] at hv1
          have hze := hid (fun h => getR_zero Hcz.out.1 hk8 (by rw [Hvz.out kk hk8]; exact h))
          have hBq := HB7.out wq (Below.step Hb8.out (Below.step Hb810.out hbq Hb810.out.size) hz8)
          have HBq := hid (fun W (hW : Below wq.heap.size wq W) => hBq.belowS hW)
          have hl8 := Hl8.out
          generalize getR z.xs kk = P at *
          obtain ⟨⟨p0, p1, p2, p3, p4⟩, ep⟩ := P
          simp only [E.val] at HG1 hze hv1
          have Hv1 := hid hv1
          clear hv1
          have hk8' : (kk : Int) < 8 := by omega
          clear hbq hBq
          obtain ⟨ev, hev⟩ : ∃ ev, errV ep = ev := ⟨_, rfl⟩
          rw [hev] at HG1
          have Hev := hid hev
          clear hev
          go_wp2_with fail
          refine HG1.out.mono ?_
          rintro e wa ⟨rfl, hba⟩
          have hza := hba.size
          have Hba := hid (Below.step Hbq.out hba hzq)
          have HBa := hid (HBq.out wa hba)
          clear hba HG1
          go_upto_region 71 with fail
          obtain ⟨wb, hwb⟩ : ∃ W : World, W = wa.alloc (.cells #[.int .i64 p0, .int .i64 p1, .int .i64 p2, .bool p3, .string p4] 38) := ⟨_, rfl⟩
          rw [← hwb]
          have hB1 : Blk wb wa.heap.size 38 #[.int .i64 p0, .int .i64 p1, .int .i64 p2, .bool p3, .string p4] := by rw [hwb]; exact Blk.new _ _ _
          have hB2 : Blk wb w4.heap.size 33 (ints nw) := by rw [hwb]; exact HBa.out.alloc _
          have Hbb := hid (show Below w10.heap.size w10 wb by rw [hwb]; exact Hba.out.alloc (by omega) _)
          have c1 : wb.cell? ⟨wa.heap.size, 1, none⟩ = some (.int .i64 p1) := hB1.cell 1
          have d1 : wb.cell? ⟨w4.heap.size, kk, none⟩ = some (.int .i64 (nw.getD kk 0)) := (hB2.cell kk).trans (ints_get nw kk (by rw [hl8]; exact hk8))
          have hlb1 := hB1.lt
          have hlb2 := hB2.lt
          have hv1 := Hv1.out
          clear Hv1
          generalize nw.getD kk 0 = x at *
          clear hwb hB1 hB2
          by_cases hx : 0 < x
          · obtain rfl : ev = .nilIface := by rw [← Hev.out, hze.out hx, errV_zero]
            subst hv1
            clear hze
            have g0 : decide (0 < p1) = true := decide_eq_true (by omega)
            have g1 : (p1 != p1) = false := by simp
            go_quiet (fail)
            go_wp2_with fail
            go_roundw
            case rel => exact ⟨kk + 1, by omega, by go_num, Below.manyDrew Hbb.out _⟩
            case measure => simp [intOf]; omega
          · clear hze hv1
            have g0 : decide (0 < x) = false := decide_eq_false hx
            go_quiet (fail)
            go_wp2_with fail
            go_roundw
            case rel => exact ⟨kk + 1, by omega, by go_num, Below.manyDrew Hbb.out _⟩
            case measure => simp [intOf]; omega
        · have Hout := hid (Below.step Hb810.out hbq Hb810.out.size)
          clear hbq
          go_wp2_with fail
          go_roundw
          case rel => exact ⟨c + 1, by omega, by go_num, Hout.out⟩
          case measure => simp [intOf]; omega
    · clear hbk
      go_wp2_with fail
      go_ret
      exact ⟨rfl, Below.step Hw8.out Hbk.out Hw8.out.size⟩

set_option maxRecDepth 100000 in
theorem topConverge_walk : LawWalk Tryd.prog 3 Tryd.f3 Tb := by
  intro W base args H enc ds p hval hA hgl
  rw [Tryd.params3] at hA hval
  obtain ⟨v0, v1, v2, v3, d0, d1, d2, d3, p0, p1, p2, p3, rfl, rfl, rfl, h0, h1, h2, h3⟩ := trodAll_fourT hA
  obtain ⟨n, rfl, _⟩ := arg_int Tryd.underlying3 (hval 0 3 v0 rfl rfl) h0
  obtain ⟨st, rfl, hst⟩ := arg_slice Tryd.underlying22 codecInts (pos_of_eq Tryd.cellsInts (by decide)) (hval 1 22 v1 rfl rfl) h1
  obtain ⟨tx, rfl, htx⟩ := arg_slice Tryd.underlying23 (Codec.str Tryd.underlying9) (pos_of_eq Tryd.cellsStr (by decide)) (hval 2 23 v2 rfl rfl) h2
  obtain ⟨cm, rfl, hcm⟩ := arg_slice Tryd.underlying22 codecInts (pos_of_eq Tryd.cellsInts (by decide)) (hval 3 22 v3 rfl rfl) h3
  exact topConverge_any n st tx cm W (intssAt_of hst) (strsAt_of htx) (intssAt_of hcm) hgl

set_option maxRecDepth 100000 in
theorem topConverge_lifted (os : Os) (started : os.Started) (H : Type) (enc : TypeId × Value → H) :
    ReturnsInHanded {} Tryd.checked os 3 .any (fun w args => (Rows.topConvergeSpec.pre enc Tryd.checked.prog Tryd.f3 [] false w args ∧ laidMetH Tryd.prog laid3 w) ∧ sizedMet enc Tryd.checked.prog Tryd.f3 (OpenSpec.ofChange Rows.topConvergeSpec) false w args) (Rows.topConvergeSpec.post enc Tryd.checked.prog Tryd.f3 false true false false) :=
  laid_lifted (C := Tryd.checked) laid3 (fun _ h => tb_of_laid3 h) [] Tryd.own started (by kernel_rfl) Tryd.func3 Tryd.laidOut (by kernel_rfl) rfl Tryd.underlying4 rfl (fun ds h => by match ds, h with | [_, _, _, _], _ => rfl)
    (ChangeSpec.witness_shaped (enc := enc) (C := Tryd.checked) (os := os) (X := fun w _ => laidMetH Tryd.prog laid3 w) false (World.doorLaid Tryd.prog 4000 os) #[.int .i64 0, .slice none 0 0, .slice none 0 0, .slice none 0 0] 8 rfl (World.shaped_of_RefB (by kernel_rfl) (by kernel_rfl)) (by kernel_rfl) (by kernel_rfl) (by kernel_rfl) (door_met3 os _)) topConverge_walk

theorem topConverge_row : Rows.TopConvergeSaid :=
  OpenClaim.holds_of_wide 3 Tryd.f3 rfl rfl rfl rfl rfl rfl rfl ⟨rfl, rfl, rfl, rfl, rfl⟩ rfl rfl rfl rfl rfl (by kernel_rfl) Tryd.func3 (by kernel_rfl)
    (of_decide_eq_true (by kernel_rfl)) (by unfold Func.isWrapper; rw [if_neg (of_decide_eq_false (by kernel_rfl))]; exact ⟨rfl, rfl⟩)
    (fun os started H enc _ => topConverge_lifted os started H enc)

theorem topConverge_holds : Rows.TopConvergeCardSaid :=
  Claim7.holds_tied_plain_at .later [] [.data, .data, .data] true _ false
    topConverge_row (fun _ h => by cases h) (by kernel_rfl) (fun _ h => by cases h) topConverge_row_tie rfl ⟨rfl, rfl⟩ (by kernel_rfl) rfl
    (fun f fn hf hfn => by
      obtain rfl : f = 3 := Option.some.inj ((show Tryd.prog.funcNamed "beaconmere/meretop.TopConverge" = some 3 by kernel_rfl).symm.trans hf) |>.symm
      obtain rfl : fn = Tryd.f3 := (Option.some.inj (Tryd.func3.symm.trans hfn)).symm
      refine ⟨by kernel_rfl, fun j t ht => ?_⟩
      have hall : Tryd.f3.params.toList.all (fun t => !Tryd.prog.wantsStandIn t) = true := by kernel_rfl
      have hm : t ∈ Tryd.f3.params.toList := by
        obtain ⟨hj, hje⟩ := Array.getElem?_eq_some_iff.1 ht
        rw [← hje]
        exact Array.mem_toList_iff.2 (Array.getElem_mem hj)
      have := List.all_eq_true.1 hall t hm
      exact (show Tryd.prog.wantsStandIn t = false by simpa using this))
    (by kernel_rfl)

end Go.Proofs.YtlcbdhblaamekaaDoor
