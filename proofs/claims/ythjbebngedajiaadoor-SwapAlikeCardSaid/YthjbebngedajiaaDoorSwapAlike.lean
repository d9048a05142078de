/-
  PROVED HERE: merelaw2.SwapAlike returns true: behind a swap two caches' trees are the same; each has nothing older than it had, and of what it lacked what both know; once more it changes nothing. CONDITIONS: the library's tables as the program's text lays them (tied by the card).
-/
import Derived.Test.YthjbebngedajiaaDoorAlikeLaw
import Derived.Test.YthjbebngedajiaaDoorCBoth
import Derived.Deep.DeepCutAuto
import Derived.Deep.CutBlock
import Derived.ChangeVars
import Derived.JoinedOf
import Derived.Stop.Joined
namespace Go.Proofs.YthjbebngedajiaaDoor
open Go.RowKit
open Go.ChangeShapes Go.WideShapes Go.ChangeAt

theorem getR_some {l : List E} {n : Nat} {u : E} (hl : chkC l = 0) (h8 : n < 8) (h : lk l (n : Int) = some u) : getR l n = (u, 0) := by
  rw [getR_lk hl (keyB_true.2 ⟨by omega, by omega⟩), h]
theorem getR_none {l : List E} {n : Nat} (hl : chkC l = 0) (h8 : n < 8) (h : lk l (n : Int) = none) : getR l n = (E.zero, 5) := by
  rw [getR_lk hl (keyB_true.2 ⟨by omega, by omega⟩), h]

set_option maxHeartbeats 16000000 in
set_option maxRecDepth 100000 in
theorem swapAlike_any (s m : SlV E) (w : World) (hs : EsAt w s) (hm : EsAt w m) (htb : Tb w) :
    Calls Tryd.prog 10 #[.slice s.A s.xs.length s.c, .slice m.A m.xs.length m.c] w fun e w' => e = .returned (.bool true) ∧ Below w.heap.size w w' := by
  have HT := hid (fun W (hW : Below w.heap.size w W) => htb.belowS hW)
  have HS := hid (fun W (hW : Below w.heap.size w W) => hs.stays hW)
  have HM := hid (fun W (hW : Below w.heap.size w W) => hm.stays hW)
  clear htb hs hm
  go_enter Tryd.func10, Tryd.ntmps10
  go_wp2_with fail
  obtain ⟨w1, hw1⟩ : ∃ w1 : World, w1 = w.alloc (.cells #[.int .i64 6, .int .i64 1, .int .i64 1, .bool false, .string ⟨#[120]⟩] 26) := ⟨_, rfl⟩
  rw [← hw1]
  have HF1 := hid (show EsAt w1 ⟨some ⟨w.heap.size, 0, none⟩, 1, [e6]⟩ by
    rw [hw1]
    exact ⟨fun _ => ⟨w.heap.size, 0, rfl, by simp, fun i hi => by
      obtain rfl : i = 0 := by simpa using hi
      exact EAt.of_blk (Blk.new w _ _)⟩, fun y hy => by rw [List.mem_singleton.1 hy]; exact chk_goodE e6_chk, by unfold maxLen; simp⟩)
  have Hb1 := hid (show Below w.heap.size w w1 by rw [hw1]; (repeat (first | with_reducible exact Below.refl _ _ | with_reducible assumption | (with_reducible refine Below.drew ?_) | (with_reducible refine Below.manyDrew ?_ _) | ((with_reducible refine Below.alloc ?_ ?_ _); rotate_left; (focus (first | omega | (dsimp only; omega) | (simp; done) | (simp; omega)))) | ((with_reducible refine Below.setCell ?_ ?_ _); rotate_left; (focus (first | omega | (dsimp only; omega) | (simp; done) | (simp; omega)))) | ((with_reducible refine Below.step ?_ (by assumption) ?_); rotate_left; (focus (first | omega | (dsimp only; omega) | (simp; done) | (simp; omega)))))))
  clear hw1
  have HD1 := hid (pair_swap _ ⟨none, 0, []⟩ w1 HF1.out (EsAt.empty _ _ _) (HT.out _ Hb1.out))
  simp only [e6_pair] at HD1
  refine HD1.out.mono ?_
  rintro e w2 ⟨v, u, rfl, hv, hu, hb2⟩
  obtain ⟨p0, rfl, hpx, hpA⟩ := hv
  obtain ⟨q0, rfl, hqx, hqA⟩ := hu
  rw [errV_zero]
  have Hb2 := hid (Below.step Hb1.out hb2 Hb1.out.size)
  obtain ⟨qb, qo, hqq, hqb, hqc⟩ := hqA.row (by rw [hqx]; simp)
  have hq4 := (hqc 0 (by rw [hqx]; simp)).c4
  have hql : q0.xs.length = 1 := by rw [hqx]; rfl
  have hpl : p0.xs.length = 1 := by rw [hpx]; rfl
  rw [hqx] at hq4
  have hq4' : w2.cell? ⟨qb, qo + 4, none⟩ = some (.string ⟨#[120]⟩) := by
    have := hq4
    rw [show qo + 0 * 5 + 4 = qo + 4 by omega] at this
    exact this
  rw [hql, hpl, hqq]
  clear hb2 hqc hq4 hqA hqx hqq hql hpl hpA hpx HF1 HD1
  have HD2 := hid (pair_swap s m w2 (HS.out _ Hb2.out) (HM.out _ Hb2.out) (HT.out _ Hb2.out))
  by_cases h0 : (pairR s.xs m.xs).2.2 = 0
  case neg =>
    have Hen := hid (errV_ne h0)
    generalize pairR s.xs m.xs = PR at *
    clear h0
    go_wp2_with fail
    refine HD2.out.mono ?_
    rintro e w3 ⟨v, u, rfl, hv, hu, hb3⟩
    obtain ⟨p, rfl, _, _⟩ := hv
    obtain ⟨q, rfl, _, _⟩ := hu
    rw [Hen.out]
    have Hb3 := hid (Below.step Hb2.out hb3 Hb2.out.size)
    clear hb3
    go_wp2_with fail
    go_ret
    exact ⟨rfl, Hb3.out⟩
  case pos =>
  obtain ⟨hva, hvb, hX, hY, hPR⟩ := pair_zero h0
  rw [hPR] at HD2
  have HKr := hid (part_facts s.xs m.xs).2.1
  have hkl := part_len s.xs m.xs
  have Hkey := hid (fun (n : Nat) h8 hk => @alike_key s.xs m.xs hva hvb hX hY n h8 hk)
  have Hold := hid (fun (k : Int) u hu => @alike_old s.xs m.xs hva hvb hX k u hu)
  have HvX := hid (alike_xval hva hvb hX)
  have HvY := hid (alike_yval hva hvb hY)
  have Hnone := hid (alike_none hva hvb hX hY)
  have Hag := hid (alike_again hva hvb hX hY)
  have Hva := hid hva
  have HLk := hid (fun W (hW : Below w.heap.size w W) => slacks_any s m W (HS.out W hW) (HM.out W hW) (HT.out W hW))
  rw [show diffR s.xs m.xs = (partT s.xs m.xs 1, 0) by rw [diffR, if_pos hva, if_pos hvb]] at HLk
  have Hbo : Hid ((bothR s.xs m.xs).2 = 0 → chkC (bothR s.xs m.xs).1 = 0 ∧ ∀ k, lk (bothR s.xs m.xs).1 k = jO (lk s.xs k) (lk m.xs k)) := hid (fun h => by
    obtain ⟨h1, _, _, _, h2⟩ := both_laws (l := s.xs) (m := m.xs) (x := (bothR s.xs m.xs).1) (by rw [← h])
    exact ⟨h1, h2⟩)
  have HBn : Hid ((bothR s.xs m.xs).2 ≠ 0 → (bothR s.xs m.xs).1 = []) := hid (fun h => by
    rw [bothR_val hva hvb] at h ⊢
    exact allC_bad h)
  have HBo := hid (fun W (hW : Below w.heap.size w W) => both_any s m W (HS.out W hW) (HM.out W hW))
  have HGa := hid (fun k W (hW : Below w.heap.size w W) => get_any s k W (HS.out W hW).entries)
  simp only at HD2 HLk
  clear h0 hva hvb hX hY hPR
  generalize (allC s.xs (someL m.xs (partT s.xs m.xs 1).1)).1 = X at *
  generalize (allC m.xs (someL s.xs (partT s.xs m.xs 1).1)).1 = Y at *
  generalize (partT s.xs m.xs 1).1 = K at *
  generalize bothR s.xs m.xs = BR at *
  obtain ⟨B, be⟩ := BR
  simp only at Hbo HBn HBo
  go_wp2_with fail
  refine HD2.out.mono ?_
  rintro e w3 ⟨v, u, rfl, hv, hu, hb3⟩
  obtain ⟨x, rfl, hxx, hxA⟩ := hv
  obtain ⟨y, rfl, hyx, hyA⟩ := hu
  rw [errV_zero]
  have Hxx := hid hxx
  have HxA := hid (fun W (hW : Below w3.heap.size w3 W) => hxA.stays hW)
  have Hyx := hid hyx
  have HyA := hid (fun W (hW : Below w3.heap.size w3 W) => hyA.stays hW)
  have Hb3 := hid (Below.step Hb2.out hb3 Hb2.out.size)
  have HDf := hid (diff_any x y w3 hxA hyA (HT.out _ Hb3.out))
  rw [show diffR x.xs y.xs = (([], 1), 0) by rw [Hxx.out, Hyx.out, diffR, if_pos HvX.out, if_pos HvY.out, Hnone.out]] at HDf
  have HPa := hid (fun W (hW : Below w3.heap.size w3 W) => pair_swap x y W (hxA.stays hW) (hyA.stays hW) (HT.out _ (Below.step Hb3.out hW Hb3.out.size)))
  rw [show pairR x.xs y.xs = (X, Y, 0) by rw [Hxx.out, Hyx.out, Hag.out]] at HPa
  have HGx := hid (fun k W (hW : Below w3.heap.size w3 W) => get_any x k W (hxA.stays hW).entries)
  have HGy := hid (fun k W (hW : Below w3.heap.size w3 W) => get_any y k W (hyA.stays hW).entries)
  simp only [show ∀ k, getR x.xs k = getR X k from fun k => by rw [Hxx.out]] at HGx
  simp only [show ∀ k, getR y.xs k = getR Y k from fun k => by rw [Hyx.out]] at HGy
  clear hb3 hxx hxA hyx hyA hq4' hqb HD2
  go_wp2_with fail
  refine HDf.out.mono ?_
  rintro e w4 ⟨k0, rfl, ⟨hkx, _⟩, _, hb4⟩
  rw [errV_zero]
  have hk0 : k0.xs.length = 0 := by rw [hkx]; rfl
  rw [hk0]
  have Hb34 := hid hb4
  have Hb4 := hid (Below.step Hb3.out hb4 Hb3.out.size)
  have HL4 := hid (HLk.out w4 Hb4.out)
  clear hb4 hkx hk0 HDf HLk
  go_wp2_with fail
  refine HL4.out.mono ?_
  rintro e w5 ⟨l, rfl, ⟨hlx, _⟩, hlA, hb5⟩
  rw [errV_zero]
  have Hlx := hid hlx
  have HlA := hid (fun W (hW : Below w5.heap.size w5 W) => hlA.stays0 hW)
  have Hb35 := hid (Below.step Hb34.out hb5 Hb34.out.size)
  have Hb5 := hid (Below.step Hb4.out hb5 Hb4.out.size)
  have HB5 := hid (HBo.out w5 Hb5.out)
  have HBg : Hid (∀ e ∈ B, e.good) := hid (by
    by_cases h : be = 0
    · exact val_good (Hbo.out h).1
    · rw [HBn.out h]; simp)
  clear hb5 hlx hlA HL4 HBo
  go_wp2_with fail
  refine HB5.out.mono ?_
  rintro e w6 ⟨v, rfl, hO, hb6⟩
  obtain ⟨ev, hev⟩ : ∃ ev, errV be = ev := ⟨_, rfl⟩
  rw [hev]
  have HEv := hid (show (be = 0 ∧ ev = .nilIface) ∨ (be ≠ 0 ∧ ev = .iface 87 (.int .i64 be)) from by
    rw [← hev]
    by_cases h : be = 0
    · exact .inl ⟨h, by rw [h]; rfl⟩
    · exact .inr ⟨h, errV_ne h⟩)
  clear hev
  obtain ⟨t, rfl, htx, htA⟩ := RowV.of_ow hO HBg.out
  have HGt := hid (fun k W (hW : Below w6.heap.size w6 W) => get_any t k W (htA.stays hW).entries)
  simp only [show ∀ k, getR t.xs k = getR B k from fun k => by rw [htx]] at HGt
  have hll : l.xs.length ≤ 8 := by rw [Hlx.out]; exact hkl
  have Hb36 := hid (Below.step Hb35.out hb6 Hb35.out.size)
  have Hb56 := hid hb6
  have Hb6 := hid (Below.step Hb5.out hb6 Hb5.out.size)
  clear hb6 hO htA htx HB5 HBn HBg
  go_upto_block 0 with fail
  go_cut [] (fun wx => Below w6.heap.size w6 wx)
  case first =>
    as_aux_lemma =>
    go_wp2_with fail
    go_loopw [19] (fun i wr => ∃ j : Nat, j ≤ l.xs.length ∧ i = .int .i64 j ∧ Below w6.heap.size w6 wr) (fun i _ => l.xs.length - (intOf i).toNat)
    case atStart => exact ⟨0, Nat.zero_le _, rfl, Below.refl _ _⟩
    case round =>
      obtain ⟨j, hj, rfl, hbr⟩ := hrel
      have Hbr := hid hbr
      by_cases hlt : j < l.xs.length
      · have hlA := HlA.out wr (Below.step Hb56.out hbr Hb56.out.size)
        obtain ⟨b, off, hA, hb, hc⟩ := hlA.row (by omega)
        have hcj := hc j hlt
        have hmem : l.xs.getD j 0 ∈ K := by rw [← Hlx.out]; exact getD_memD 0 hlt
        generalize l.xs.getD j 0 = kj at *
        obtain ⟨hk0, hk8⟩ := HKr.out _ hmem
        obtain ⟨n, rfl⟩ := Int.eq_ofNat_of_zero_le hk0
        obtain ⟨u, hux, huy, huj⟩ := Hkey.out n (by omega) hmem
        have HA1 := hid (HGx.out n wr (Below.step Hb36.out hbr Hb36.out.size))
        have HB1 := hid (fun W hW => HGy.out n W hW)
        have HC1 := hid (fun W hW => HGt.out n W hW)
        have Hlb := hid (fun h : be = 0 => getR_some (Hbo.out h).1 (show n < 8 by omega) (by rw [(Hbo.out h).2, huj]))
        rw [getR_some HvX.out (by omega) hux] at HA1
        rw [getR_some HvY.out (by omega) huy] at HB1
        obtain ⟨u0, u1, u2, u3, u4⟩ := u
        unfold E.val at HA1 HB1
        simp only at HA1 HB1
        have Hcj := hid hcj
        have HA := hid hA
        have heq := fun W => eqRunE u0 u1 u2 u3 u4 u0 u1 u2 u3 u4 W
        rw [eqbE_refl] at heq
        rw [show errV 0 = .nilIface from rfl] at HA1 HB1
        rw [hA]
        clear hA hc hlA hmem hux huy huj hbr hk0 hk8
        go_wp2_with fail
        refine HA1.out.mono ?_
        rintro e w7 ⟨rfl, hb7⟩
        have Hb7 := hid hb7
        have hz7 := hb7.size
        clear hb7
        go_upto_region 17 with fail
        obtain ⟨w8, hw8⟩ : ∃ w8 : World, w8 = w7.alloc (.cells #[.int .i64 u0, .int .i64 u1, .int .i64 u2, .bool u3, .string u4] 26) := ⟨_, rfl⟩
        rw [← hw8]
        have HX8 := hid (show Blk w8 w7.heap.size 26 #[.int .i64 u0, .int .i64 u1, .int .i64 u2, .bool u3, .string u4] by rw [hw8]; exact Blk.new _ _ _)
        have hb8 : Below wr.heap.size wr w8 := by rw [hw8]; exact Hb7.out.alloc hz7 _
        have Hb8 := hid hb8
        have hlx8 := HX8.out.lt
        have c8 : w8.cell? ⟨b, off + j, none⟩ = some (.int .i64 n) := (hb8.cell (p := ⟨b, off + j, none⟩) hb).trans Hcj.out
        have HB8 := hid (HB1.out w8 (Below.step Hb36.out (Below.step Hbr.out hb8 Hbr.out.size) Hb36.out.size))
        clear hw8 hb8
        go_wp2_with fail
        refine HB8.out.mono ?_
        rintro e w9 ⟨rfl, hb9⟩
        have Hb9 := hid hb9
        have hz9 := hb9.size
        clear hb9 c8
        go_upto_region 18 with fail
        obtain ⟨wA, hwA⟩ : ∃ wA : World, wA = w9.alloc (.cells #[.int .i64 u0, .int .i64 u1, .int .i64 u2, .bool u3, .string u4] 26) := ⟨_, rfl⟩
        rw [← hwA]
        have HYA := hid (show Blk wA w9.heap.size 26 #[.int .i64 u0, .int .i64 u1, .int .i64 u2, .bool u3, .string u4] by rw [hwA]; exact Blk.new _ _ _)
        have hb9A : Below w8.heap.size w8 wA := by rw [hwA]; exact Hb9.out.alloc hz9 _
        have HXA := hid (HX8.out.belowS hb9A)
        have hbA : Below wr.heap.size wr wA := Below.step Hb8.out hb9A Hb8.out.size
        have HcA := hid (show wA.cell? ⟨b, off + j, none⟩ = some (.int .i64 n) from (hbA.cell (p := ⟨b, off + j, none⟩) hb).trans Hcj.out)
        have hbwA : b < wA.heap.size := Nat.lt_of_lt_of_le hb hbA.size
        have HbA := hid (Below.step Hbr.out hbA Hbr.out.size)
        clear hwA hb9A hbA
        go_cut [138] (fun t wx => t = .bool false ∧ wx = wA)
        case first =>
          have c0 : wA.cell? ⟨w7.heap.size, 0, none⟩ = some (.int .i64 u0) := HXA.out.cell 0
          have c1 : wA.cell? ⟨w7.heap.size, 1, none⟩ = some (.int .i64 u1) := HXA.out.cell 1
          have c2 : wA.cell? ⟨w7.heap.size, 2, none⟩ = some (.int .i64 u2) := HXA.out.cell 2
          have c3 : wA.cell? ⟨w7.heap.size, 3, none⟩ = some (.bool u3) := HXA.out.cell 3
          have c4 : wA.cell? ⟨w7.heap.size, 4, none⟩ = some (.string u4) := HXA.out.cell 4
          have d0 : wA.cell? ⟨w9.heap.size, 0, none⟩ = some (.int .i64 u0) := HYA.out.cell 0
          have d1 : wA.cell? ⟨w9.heap.size, 1, none⟩ = some (.int .i64 u1) := HYA.out.cell 1
          have d2 : wA.cell? ⟨w9.heap.size, 2, none⟩ = some (.int .i64 u2) := HYA.out.cell 2
          have d3 : wA.cell? ⟨w9.heap.size, 3, none⟩ = some (.bool u3) := HYA.out.cell 3
          have d4 : wA.cell? ⟨w9.heap.size, 4, none⟩ = some (.string u4) := HYA.out.cell 4
          have hlxA := HXA.out.lt
          have hlyA := HYA.out.lt
          go_wp2_with fail
          go_meet
          exact ⟨rfl, rfl⟩
        case rest =>
        obtain ⟨rfl, hwc⟩ := hcut
        obtain rfl : wA = wc := hwc.symm
        rcases HEv.out with ⟨hbe, rfl⟩ | ⟨hbe, rfl⟩
        · have hg := Hlb.out hbe
          have HC2 := hid (HC1.out wA HbA.out)
          rw [hg] at HC2
          unfold E.val at HC2
          simp only at HC2
          rw [show errV 0 = .nilIface from rfl] at HC2
          have cA := HcA.out
          clear hg hbe
          go_wp2_with fail
          refine HC2.out.mono ?_
          rintro e wB ⟨rfl, hbB⟩
          have hXB := HXA.out.belowS hbB
          have c0 : wB.cell? ⟨w7.heap.size, 0, none⟩ = some (.int .i64 u0) := hXB.cell 0
          have c1 : wB.cell? ⟨w7.heap.size, 1, none⟩ = some (.int .i64 u1) := hXB.cell 1
          have c2 : wB.cell? ⟨w7.heap.size, 2, none⟩ = some (.int .i64 u2) := hXB.cell 2
          have c3 : wB.cell? ⟨w7.heap.size, 3, none⟩ = some (.bool u3) := hXB.cell 3
          have c4 : wB.cell? ⟨w7.heap.size, 4, none⟩ = some (.string u4) := hXB.cell 4
          have hlB := hXB.lt
          have HbB := hid (Below.step HbA.out hbB HbA.out.size)
          have hzB := HbB.out.size
          clear hbB hXB
          go_wp2_with fail
          go_roundw
          case rel => exact ⟨j + 1, by omega, by go_num, HbB.out.alloc hzB _⟩
          case measure => simp [intOf]; omega
        · clear hbe
          go_wp2_with fail
          go_roundw
          case rel => exact ⟨j + 1, by omega, by go_num, HbA.out⟩
          case measure => simp [intOf]; omega
      · go_wp2_with fail
        go_meet
        exact hbr
  case rest =>
  have hb7 := hcut
  obtain ⟨w7, rfl⟩ : ∃ w7 : World, w7 = wc := ⟨_, rfl⟩
  have Hb37 := hid (Below.step Hb36.out hb7 Hb36.out.size)
  have Hb7 := hid (Below.step Hb6.out hb7 Hb6.out.size)
  clear hb7 hcut HGy HGt Hkey Hbo HKr HlA Hlx hkl hll Hb56 HEv
  go_upto_block 2 with fail
  go_cut [] (fun wx => Below w7.heap.size w7 wx)
  case first =>
    as_aux_lemma =>
    go_wp2_with fail
    go_loopw [26] (fun i wr => ∃ n : Nat, n ≤ 8 ∧ i = .int .i64 n ∧ Below w7.heap.size w7 wr) (fun i _ => 8 - (intOf i).toNat)
    case atStart => exact ⟨0, by omega, rfl, Below.refl _ _⟩
    case round =>
      obtain ⟨n, hn, rfl, hbr⟩ := hrel
      have Hbr := hid hbr
      by_cases hlt : n < 8
      · have HA1 := hid (HGa.out n wr (Below.step Hb7.out hbr Hb7.out.size))
        have HB1 := hid (fun W hW => HGx.out n W hW)
        have Hb3r := hid (Below.step Hb37.out hbr Hb37.out.size)
        cases hlk : lk s.xs (n : Int) with
        | none =>
          rw [getR_none Hva.out hlt hlk] at HA1
          simp only at HA1
          rw [show E.zero.val = .agg #[.int .i64 0, .int .i64 0, .int .i64 0, .bool false, .string ⟨#[]⟩] from rfl, show errV 5 = .iface 87 (.int .i64 5) from rfl] at HA1
          generalize getR X n = G at *
          obtain ⟨⟨v0, v1, v2, v3, v4⟩, ev⟩ := G
          unfold E.val at HB1
          simp only at HB1
          clear hlk hbr
          go_wp2_with fail
          refine HA1.out.mono ?_
          rintro e w8 ⟨rfl, hb8⟩
          have Hb8 := hid hb8
          have hz8 := hb8.size
          clear hb8
          go_wp2_with fail
          refine (HB1.out _ (Below.step Hb3r.out (Hb8.out.alloc hz8 _) Hb3r.out.size)).mono ?_
          rintro e w9 ⟨rfl, hb9⟩
          have Hb9 := hid (Below.step (Hb8.out.alloc hz8 _) hb9 (by simp; omega))
          have hz9 := Hb9.out.size
          clear hb9
          go_wp2_with fail
          go_roundw
          case rel => exact ⟨n + 1, by omega, by go_num, Below.step Hbr.out (Hb9.out.alloc hz9 _) Hbr.out.size⟩
          case measure => simp [intOf]; omega
        | some u =>
          obtain ⟨v, hv, hv1, hv2⟩ := Hold.out n u hlk
          rw [getR_some Hva.out hlt hlk] at HA1
          rw [getR_some HvX.out hlt hv] at HB1
          obtain ⟨u0, u1, u2, u3, u4⟩ := u
          obtain ⟨v0, v1, v2, v3, v4⟩ := v
          unfold E.val at HA1 HB1
          simp only at HA1 HB1 hv1 hv2
          rw [show errV 0 = .nilIface from rfl] at HA1 HB1
          have hn1 : ¬ v1 < u1 := by omega
          have hn2 : ¬ v2 < u2 := by omega
          clear hlk hv hbr hv1 hv2
          go_wp2_with fail
          refine HA1.out.mono ?_
          rintro e w8 ⟨rfl, hb8⟩
          have Hb8 := hid hb8
          have hz8 := hb8.size
          clear hb8
          go_upto_region 28 with fail
          obtain ⟨wU, hwU⟩ : ∃ wU : World, wU = w8.alloc (.cells #[.int .i64 u0, .int .i64 u1, .int .i64 u2, .bool u3, .string u4] 26) := ⟨_, rfl⟩
          rw [← hwU]
          have HUU := hid (show Blk wU w8.heap.size 26 #[.int .i64 u0, .int .i64 u1, .int .i64 u2, .bool u3, .string u4] by rw [hwU]; exact Blk.new _ _ _)
          have HbU := hid (show Below wr.heap.size wr wU by rw [hwU]; exact Hb8.out.alloc hz8 _)
          clear hwU
          go_wp2_with fail
          refine (HB1.out _ (Below.step Hb3r.out HbU.out Hb3r.out.size)).mono ?_
          rintro e w9 ⟨rfl, hb9⟩
          have hU9 := HUU.out.belowS hb9
          have c1 : w9.cell? ⟨w8.heap.size, 1, none⟩ = some (.int .i64 u1) := hU9.cell 1
          have c2 : w9.cell? ⟨w8.heap.size, 2, none⟩ = some (.int .i64 u2) := hU9.cell 2
          have hl9 := hU9.lt
          have Hb9 := hid (Below.step HbU.out hb9 HbU.out.size)
          have hz9 := Hb9.out.size
          clear hb9 hU9
          go_wp2_with fail
          go_roundw
          case rel => exact ⟨n + 1, by omega, by go_num, Below.step Hbr.out (Hb9.out.alloc hz9 _) Hbr.out.size⟩
          case measure => simp [intOf]; omega
      · go_wp2_with fail
        go_meet
        exact hbr
  case rest =>
  have hb8 := hcut
  obtain ⟨w8, rfl⟩ : ∃ w8 : World, w8 = wc := ⟨_, rfl⟩
  have Hb38 := hid (Below.step Hb37.out hb8 Hb37.out.size)
  have Hb8 := hid (Below.step Hb7.out hb8 Hb7.out.size)
  have HP := hid (HPa.out w8 Hb38.out)
  clear hb8 hcut HPa
  go_wp2_with fail
  refine HP.out.mono ?_
  rintro e w9 ⟨v, u, rfl, hv, hu, hb9⟩
  obtain ⟨c, rfl, hcx, hcA⟩ := hv
  obtain ⟨d, rfl, hdx, hdA⟩ := hu
  rw [errV_zero]
  have Hdx := hid hdx
  have HdA := hid (fun W (hW : Below w9.heap.size w9 W) => hdA.stays hW)
  have Hb39 := hid (Below.step Hb38.out hb9 Hb38.out.size)
  have Hb9 := hid (Below.step Hb8.out hb9 Hb8.out.size)
  have HE1 := hid (ecache_any c x w9 hcA (HxA.out _ Hb39.out))
  rw [show eqsE c.xs x.xs = true by rw [hcx, Hxx.out, eqsE_refl]] at HE1
  clear hb9 hcx hcA hdx hdA HP
  go_wp2_with fail
  refine HE1.out.mono ?_
  rintro e wA ⟨rfl, hbA⟩
  have HbA := hid (Below.step Hb9.out hbA Hb9.out.size)
  have HE2 := hid (ecache_any d y wA (HdA.out _ hbA) (HyA.out _ (Below.step Hb39.out hbA Hb39.out.size)))
  rw [show eqsE d.xs y.xs = true by rw [Hdx.out, Hyx.out, eqsE_refl]] at HE2
  clear hbA
  go_wp2_with fail
  refine HE2.out.mono ?_
  rintro e wB ⟨rfl, hbB⟩
  have HbB := hid (Below.step HbA.out hbB HbA.out.size)
  clear hbB
  go_wp2_with fail
  go_ret
  exact ⟨rfl, HbB.out⟩

set_option maxRecDepth 100000 in
theorem swapAlike_walk : LawWalk Tryd.prog 10 Tryd.f10 Tb := by
  intro W base args H enc ds p hval hA hgl
  rw [Tryd.params10] at hA hval
  obtain ⟨v0, v1, d0, d1, p0, p1, rfl, rfl, rfl, h0, h1⟩ := trodAll_two hA
  obtain ⟨s, rfl, hs⟩ := arg_slice Tryd.underlying22 codecEntry (pos_of_eq Tryd.cellsEntry (by decide)) (hval 0 22 v0 rfl rfl) h0
  obtain ⟨m, rfl, hm⟩ := arg_slice Tryd.underlying22 codecEntry (pos_of_eq Tryd.cellsEntry (by decide)) (hval 1 22 v1 rfl rfl) h1
  exact swapAlike_any s m W (entriesAt_of hs).es (entriesAt_of hm).es hgl

set_option maxRecDepth 100000 in
theorem swapAlike_lifted (os : Os) (started : os.Started) (H : Type) (enc : TypeId × Value → H) :
    ReturnsInHanded {} Tryd.checked os 10 .any (fun w args => (Rows.swapAlikeSpec.pre enc Tryd.checked.prog Tryd.f10 [] false w args ∧ laidMetH Tryd.prog laid3 w) ∧ sizedMet enc Tryd.checked.prog Tryd.f10 (OpenSpec.ofChange Rows.swapAlikeSpec) false w args) (Rows.swapAlikeSpec.post enc Tryd.checked.prog Tryd.f10 false true false false) :=
  laid_lifted (C := Tryd.checked) laid3 (fun _ h => tb_of_laid3 h) [] Tryd.own started (by kernel_rfl) Tryd.func10 Tryd.laidOut (by kernel_rfl) rfl Tryd.underlying4 rfl (fun ds h => by match ds, h with | [_, _], _ => rfl)
    (ChangeSpec.witness_shaped (enc := enc) (C := Tryd.checked) (os := os) (X := fun w _ => laidMetH Tryd.prog laid3 w) false (World.doorLaid Tryd.prog 4000 os) #[.slice none 0 0, .slice none 0 0] 8 rfl (World.shaped_of_RefB (by kernel_rfl) (by kernel_rfl)) (by kernel_rfl) (by kernel_rfl) (by kernel_rfl) (door_met3 os _)) swapAlike_walk

theorem swapAlike_row : Rows.SwapAlikeSaid :=
  OpenClaim.holds_of_wide 10 Tryd.f10 rfl rfl rfl rfl rfl rfl rfl ⟨rfl, rfl, rfl, rfl, rfl⟩ rfl rfl rfl rfl rfl (by kernel_rfl) Tryd.func10 (by kernel_rfl)
    (of_decide_eq_true (by kernel_rfl)) (by unfold Func.isWrapper; rw [if_neg (of_decide_eq_false (by kernel_rfl))]; exact ⟨rfl, rfl⟩)
    (fun os started H enc _ => swapAlike_lifted os started H enc)

theorem swapAlike_holds : Rows.SwapAlikeCardSaid :=
  Claim7.holds_tied_plain_at .later [] [.data, .data, .data] true _ true
    swapAlike_row (fun _ h => by cases h) (by kernel_rfl) (fun _ h => by cases h) swapAlike_row_tie rfl ⟨rfl, rfl⟩ (by kernel_rfl) rfl
    (fun f fn hf hfn => by
      obtain rfl : f = 10 := Option.some.inj ((show Tryd.prog.funcNamed "beaconmere/merelaw2.SwapAlike" = some 10 by kernel_rfl).symm.trans hf) |>.symm
      obtain rfl : fn = Tryd.f10 := (Option.some.inj (Tryd.func10.symm.trans hfn)).symm
      refine ⟨by kernel_rfl, fun j t ht => ?_⟩
      have hall : Tryd.f10.params.toList.all (fun t => !Tryd.prog.wantsStandIn t) = true := by kernel_rfl
      have hm : t ∈ Tryd.f10.params.toList := by
        obtain ⟨hj, hje⟩ := Array.getElem?_eq_some_iff.1 ht
        rw [← hje]
        exact Array.mem_toList_iff.2 (Array.getElem_mem hj)
      have := List.all_eq_true.1 hall t hm
      exact (show Tryd.prog.wantsStandIn t = false by simpa using this))
    (by kernel_rfl)

end Go.Proofs.YthjbebngedajiaaDoor
