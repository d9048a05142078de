/-
  PROVED HERE: merelaw1.FreshTrue returns true: a key is told just if it is not stale; who says that nothing came between makes it as new; who says that something did takes it away. CONDITIONS: errors.errorType as the program's text lays it (tied by the card).
-/
import Derived.Test.YtgfbpabffnabaaaDoorTouchLaw
import Derived.Test.YtgfbpabffnabaaaDoorDoor
import Derived.Deep.DeepCutAuto
import Derived.Deep.CutBlock
namespace Go.Proofs.YtgfbpabffnabaaaDoor
open Go.RowKit
open Go.ChangeShapes Go.WideShapes Go.ChangeAt

def fX : E := ⟨1, 2, 4, false, ⟨#[120]⟩⟩
theorem fX_chk : chk fX = 0 := chk_zero.2 ⟨rfl, by decide, by decide, by decide, (show (1 : Nat) ≤ 12 by decide), fun h => by cases h⟩
theorem fX_val : chkC [fX] = 0 := val_iff.2 ⟨by simp [Asc], fun x hx => by rw [List.mem_singleton.1 hx]; exact fX_chk⟩
theorem fX_get : getR [fX] 1 = (fX, 0) := by
  rw [getR, if_pos fX_val, if_pos (by decide)]
  rfl
theorem fX_touch : touchR [fX] 1 2 9 = ([⟨1, 2, 9, false, ⟨#[120]⟩⟩], 0) := by
  rw [touchR, fX_get]
  rfl
theorem fX_fresh : freshR [fX] 1 5 = (E.zero, 8) := by
  rw [freshR, fX_get]
  rfl

set_option maxHeartbeats 16000000 in
set_option maxRecDepth 100000 in
theorem freshTrue_any (s : SlV E) (k f q : Int) (w : World) (hs : EsAt w s) (hgl : Gl w) :
    Calls Tryd.prog 4 #[.slice s.A s.xs.length s.c, .int .i64 k, .int .i64 f, .int .i64 q] w fun e w' => e = .returned (.bool true) ∧ Below w.heap.size w w' := by
  have HS := hid (fun W (hW : Below w.heap.size w W) => hs.stays hW)
  have HG := hid (fun W (hW : Below w.heap.size w W) => hgl.belowS hW)
  have hlen := hs.len
  unfold maxLen at hlen
  clear hs hgl
  go_enter Tryd.func4, Tryd.ntmps4
  go_wp2_with fail
  obtain ⟨w1, hw1⟩ : ∃ w1 : World, w1 = w.alloc (.cells #[.int .i64 1, .int .i64 2, .int .i64 4, .bool false, .string ⟨#[120]⟩] 26) := ⟨_, rfl⟩
  rw [← hw1]
  have HF1 := hid (show EsAt w1 ⟨some ⟨w.heap.size, 0, none⟩, 1, [fX]⟩ by
    rw [hw1]
    exact ⟨fun _ => ⟨w.heap.size, 0, rfl, by simp, fun i hi => by
      obtain rfl : i = 0 := by simpa using hi
      exact EAt.of_blk (Blk.new w _ _)⟩, fun y hy => by rw [List.mem_singleton.1 hy]; exact chk_goodE fX_chk, by unfold maxLen; simp⟩)
  have Hb1 := hid (show Below w.heap.size w w1 by rw [hw1]; (repeat (first | with_reducible exact Below.refl _ _ | with_reducible assumption | (with_reducible refine Below.drew ?_) | (with_reducible refine Below.manyDrew ?_ _) | ((with_reducible refine Below.alloc ?_ ?_ _); rotate_left; (focus (first | omega | (dsimp only; omega) | (simp; done) | (simp; omega)))) | ((with_reducible refine Below.setCell ?_ ?_ _); rotate_left; (focus (first | omega | (dsimp only; omega) | (simp; done) | (simp; omega)))) | ((with_reducible refine Below.step ?_ (by assumption) ?_); rotate_left; (focus (first | omega | (dsimp only; omega) | (simp; done) | (simp; omega)))))))
  have hz1 := Hb1.out.size
  clear hw1
  have HT1 := hid (touch_any _ 1 2 9 w1 HF1.out)
  simp only [fX_touch] at HT1
  refine HT1.out.mono ?_
  rintro e w2 ⟨v2, rfl, hOw, hb2⟩
  obtain ⟨y, rfl, hyx, hyA⟩ := RowV.of_ow hOw (by
    intro z hz
    rw [List.mem_singleton.1 hz]
    exact ⟨by decide, by decide, by decide, by simp only; unfold maxLen; exact (show (1 : Nat) ≤ 2 ^ 63 - 1 by decide)⟩)
  have Hb2 := hid (Below.step Hb1.out hb2 hz1)
  have hz2 := Hb2.out.size
  have HF2 := hid (HF1.out.stays hb2)
  have HyA := hid hyA
  have Hyx := hid hyx
  clear hOw hb2 hyA hyx HT1 HF1
  simp only [errV_zero]
  go_wp2_with fail
  have HT2 := hid (freshGet_any _ 1 5 w2 HF2.out.entries)
  simp only [fX_fresh] at HT2
  rw [errV_ne (by decide)] at HT2
  unfold E.val E.zero at HT2
  refine HT2.out.mono ?_
  rintro e w3 ⟨rfl, hb3⟩
  have Hb3 := hid (Below.step Hb2.out hb3 hz2)
  have hz3 := Hb3.out.size
  have hyA3 := HyA.out.stays hb3
  obtain ⟨b, off, hyb, hbl, hyc⟩ := hyA3.row (by rw [Hyx.out]; simp)
  have c2 : w3.cell? ⟨b, off + 2, none⟩ = some (.int .i64 9) := by
    have := (hyc 0 (by rw [Hyx.out]; simp)).c2
    rw [Hyx.out] at this
    simpa using this
  have hlb : b < w3.heap.size := hbl
  rw [hyb, Hyx.out]
  simp only [List.length_cons, List.length_nil, Nat.zero_add]
  have h8 := errV_ne (show (8 : Int) ≠ 0 by decide)
  have Hb3' := hid (Hb3.out.alloc hz3 (.cells #[.int .i64 0, .int .i64 0, .int .i64 0, .bool false, .string ⟨#[]⟩] 26))
  have HE8 := hid (error_any 8 8 _ (HG.out _ Hb3'.out))
  rw [h8, beq_self_eq_true] at HE8
  clear hb3 hyA3 hyc h8 HT2 HF2 hyb
  go_wp2_with fail
  refine HE8.out.mono ?_
  rintro e w4 ⟨rfl, hb4⟩
  have Hb4 := hid (Below.step Hb3'.out hb4 Hb3'.out.size)
  have hz4 := Hb4.out.size
  clear hb4 HE8 c2 hlb hbl
  go_wp2_with fail
  have HSt := hid (stale_any s f w4 (HS.out _ Hb4.out).entries)
  unfold IRes at HSt
  by_cases hse : (staleR s.xs f).2 = 0
  · obtain ⟨hf, hc, hsl⟩ := staleR_zero hse
    rw [hse, errV_zero, hsl] at HSt
    have Hf := hid hf
    have Hc := hid hc
    clear hse hf hc hsl
    refine HSt.out.mono ?_
    rintro e w5 ⟨v5, rfl, hOw, hb5⟩
    obtain ⟨sf, rfl, hsx, hsA, _, _⟩ := IntsAt.of_ow hOw
    have Hb5 := hid (Below.step Hb4.out hb5 hz4)
    have hz5 := Hb5.out.size
    have Hsx := hid hsx
    have HsA := hid hsA
    clear hOw hb5 hsx hsA HSt
    go_wp2_with fail
    have HFr := hid (freshGet_any s k f w5 (HS.out _ Hb5.out).entries)
    have HFe := hid (show freshR s.xs k f = if (getR s.xs k).2 = 0 then (if (getR s.xs k).1.asof < f then (E.zero, 8) else getR s.xs k) else (E.zero, (getR s.xs k).2) by rw [freshR, if_pos Hf.out])
    have HGt := hid (fun W (hW : Below w.heap.size w W) => get_any s k W (HS.out W hW).entries)
    obtain ⟨G, hG⟩ : ∃ G, getR s.xs k = G := ⟨_, rfl⟩
    rw [hG] at HFe HGt
    have HGe := hid hG
    clear hG
    obtain ⟨⟨e0, e1, e2, e3, e4⟩, ge⟩ := G
    generalize freshR s.xs k f = FR at *
    obtain ⟨⟨x0, x1, x2, x3, x4⟩, xe⟩ := FR
    unfold E.val at HFr HGt
    refine HFr.out.mono ?_
    rintro e w6 ⟨rfl, hb6⟩
    have Hb6 := hid (Below.step Hb5.out hb6 hz5)
    have hz6 := Hb6.out.size
    have HsA6 := hid (HsA.out.stays0 hb6)
    clear hb6
    go_wp2_with fail
    obtain ⟨w7, hw7⟩ : ∃ w7 : World, w7 = w6.alloc (.cells #[.int .i64 x0, .int .i64 x1, .int .i64 x2, .bool x3, .string x4] 26) := ⟨_, rfl⟩
    rw [← hw7]
    have HX7 := hid (show Blk w7 w6.heap.size 26 #[.int .i64 x0, .int .i64 x1, .int .i64 x2, .bool x3, .string x4] by rw [hw7]; exact Blk.new _ _ _)
    have Hb7 := hid (show Below w.heap.size w w7 by rw [hw7]; exact Hb6.out.alloc hz6 _)
    have hz7 := Hb7.out.size
    have HsA7 := hid (show IntsAt w7 sf by rw [hw7]; exact HsA6.out.stays0 (by (repeat (first | with_reducible exact Below.refl _ _ | with_reducible assumption | (with_reducible refine Below.drew ?_) | (with_reducible refine Below.manyDrew ?_ _) | ((with_reducible refine Below.alloc ?_ ?_ _); rotate_left; (focus (first | omega | (dsimp only; omega) | (simp; done) | (simp; omega)))) | ((with_reducible refine Below.setCell ?_ ?_ _); rotate_left; (focus (first | omega | (dsimp only; omega) | (simp; done) | (simp; omega)))) | ((with_reducible refine Below.step ?_ (by assumption) ?_); rotate_left; (focus (first | omega | (dsimp only; omega) | (simp; done) | (simp; omega))))))))
    clear hw7
    by_cases h0 : ge = 0
    · subst h0
      have hfe := HFe.out
      rw [if_pos rfl] at hfe
      try simp only at hfe
      have HFe2 := hid hfe
      obtain ⟨hc, hkb, hlk⟩ := getR_lk_some HGe.out
      have HIn := hid (stale_mem (f := f) (val_iff.1 hc).1 hlk)
      have ⟨_, _, g2, g3, _⟩ := chk_zero.1 ((val_iff.1 hc).2 _ (lk_some hlk).1)
      have g2' := seqB_true.1 g2
      try simp only at g2' g3
      obtain ⟨ga, gb⟩ := g2'
      have HT3 := hid (touch_same (q := q) HGe.out)
      have HT4 := hid (touch_later (q := q) HGe.out)
      have Hg := hid g3
      rw [errV_zero] at HGt
      clear hfe hc hkb hlk g2 g3
      refine (HGt.out w7 Hb7.out).mono ?_
      rintro e w8 ⟨rfl, hb8⟩
      have HX8 := hid (HX7.out.belowS hb8)
      have Hb8 := hid (Below.step Hb7.out hb8 hz7)
      have hz8 := Hb8.out.size
      have HsA8 := hid (HsA7.out.stays0 hb8)
      clear hb8
      go_wp2_with fail
      obtain ⟨w9, hw9⟩ : ∃ w9 : World, w9 = w8.alloc (.cells #[.int .i64 e0, .int .i64 e1, .int .i64 e2, .bool e3, .string e4] 26) := ⟨_, rfl⟩
      rw [← hw9]
      have HX9 := hid (show Blk w9 w6.heap.size 26 #[.int .i64 x0, .int .i64 x1, .int .i64 x2, .bool x3, .string x4] by rw [hw9]; exact HX8.out.alloc _)
      have HY9 := hid (show Blk w9 w8.heap.size 26 #[.int .i64 e0, .int .i64 e1, .int .i64 e2, .bool e3, .string e4] by rw [hw9]; exact Blk.new _ _ _)
      have Hb9 := hid (show Below w.heap.size w w9 by rw [hw9]; exact Hb8.out.alloc hz8 _)
      have hz9 := Hb9.out.size
      have HsA9 := hid (show IntsAt w9 sf by rw [hw9]; exact HsA8.out.stays0 (by (repeat (first | with_reducible exact Below.refl _ _ | with_reducible assumption | (with_reducible refine Below.drew ?_) | (with_reducible refine Below.manyDrew ?_ _) | ((with_reducible refine Below.alloc ?_ ?_ _); rotate_left; (focus (first | omega | (dsimp only; omega) | (simp; done) | (simp; omega)))) | ((with_reducible refine Below.setCell ?_ ?_ _); rotate_left; (focus (first | omega | (dsimp only; omega) | (simp; done) | (simp; omega)))) | ((with_reducible refine Below.step ?_ (by assumption) ?_); rotate_left; (focus (first | omega | (dsimp only; omega) | (simp; done) | (simp; omega))))))))
      clear hw9
      refine (in_any sf k w9 HsA9.out).mono ?_
      rintro e w9' ⟨rfl, rfl⟩
      rw [Hsx.out, HIn.out]
      go_upto_region 14 with fail
      go_cut [17, 20, 105] (fun _ _ t wx => t = .bool false ∧ Below w9.heap.size w9 wx)
      case first =>
        as_aux_lemma =>
        by_cases hst : e2 < f
        · obtain rfl : xe = 8 := by
            have := HFe2.out
            rw [if_pos hst] at this
            exact (Prod.mk.inj this).2
          have HE8 := hid (error_any 8 8 w9 (HG.out _ Hb9.out))
          rw [errV_ne (by decide), beq_self_eq_true] at HE8
          rw [decide_eq_true hst, errV_ne (show (8 : Int) ≠ 0 by decide)]
          go_wp2_with fail
          refine HE8.out.mono ?_
          rintro e w10 ⟨rfl, hb10⟩
          go_wp2_with fail
          go_meet
          exact ⟨rfl, hb10⟩
        · have hh := HFe2.out
          rw [if_neg hst] at hh
          cases hh
          have HE8 := hid (error_any 0 8 w9 (HG.out _ Hb9.out))
          rw [errV_zero, show ((0 : Int) == 8) = false from rfl] at HE8
          rw [decide_eq_false hst, errV_zero]
          go_wp2_with fail
          refine HE8.out.mono ?_
          rintro e w10 ⟨rfl, hb10⟩
          have hX := HX9.out.belowS hb10
          have hY := HY9.out.belowS hb10
          have c0 : w10.cell? ⟨w6.heap.size, 0, none⟩ = some (.int .i64 e0) := hX.cell 0
          have c1 : w10.cell? ⟨w6.heap.size, 1, none⟩ = some (.int .i64 e1) := hX.cell 1
          have c2 : w10.cell? ⟨w6.heap.size, 2, none⟩ = some (.int .i64 e2) := hX.cell 2
          have c3 : w10.cell? ⟨w6.heap.size, 3, none⟩ = some (.bool e3) := hX.cell 3
          have c4 : w10.cell? ⟨w6.heap.size, 4, none⟩ = some (.string e4) := hX.cell 4
          have z0 : w10.cell? ⟨w8.heap.size, 0, none⟩ = some (.int .i64 e0) := hY.cell 0
          have z1 : w10.cell? ⟨w8.heap.size, 1, none⟩ = some (.int .i64 e1) := hY.cell 1
          have z2 : w10.cell? ⟨w8.heap.size, 2, none⟩ = some (.int .i64 e2) := hY.cell 2
          have z3 : w10.cell? ⟨w8.heap.size, 3, none⟩ = some (.bool e3) := hY.cell 3
          have z4 : w10.cell? ⟨w8.heap.size, 4, none⟩ = some (.string e4) := hY.cell 4
          clear hX hY
          go_wp2_with fail
          go_meet
          exact ⟨by rw [decide_eq_false (by omega)], hb10⟩
      case rest =>
      obtain ⟨rfl, hb10⟩ := hcut
      obtain ⟨w10, rfl⟩ : ∃ w10 : World, w10 = wc := ⟨_, rfl⟩
      have HY10 := hid (HY9.out.belowS hb10)
      have Hb10 := hid (Below.step Hb9.out hb10 hz9)
      have hz10 := Hb10.out.size
      have a1 : w10.cell? ⟨w8.heap.size, 1, none⟩ = some (.int .i64 e1) := HY10.out.cell 1
      have hl10 := HY10.out.lt
      clear hb10 HFe HFe2 HIn
      go_wp2_with fail
      have HT6 := hid (touch_any s k e1 q w10 (HS.out _ Hb10.out))
      unfold CRes at HT6
      rcases HT3.out with ⟨k0, kq, kg, kget⟩ | kne
      · try simp only at k0 kg kget
        rw [k0, errV_zero] at HT6
        have hq1 := seqB_true.1 kq
        obtain ⟨hqa, hqb⟩ := hq1
        have HKg := hid kg
        have HKget := hid kget
        clear k0 kg kget kq
        generalize (touchR s.xs k e1 q).1 = LL at *
        refine HT6.out.mono ?_
        rintro e w11 ⟨v11, rfl, hOw, hb11⟩
        obtain ⟨y, rfl, hyx, hyA⟩ := RowV.of_ow hOw HKg.out
        have HY11 := hid (HY10.out.belowS hb11)
        have Hb11 := hid (Below.step Hb10.out hb11 hz10)
        have hz11 := Hb11.out.size
        have HG6 := hid (get_any y k w11 hyA.entries)
        rw [hyx, HKget.out, errV_zero] at HG6
        unfold E.val at HG6
        rw [hyx]
        clear hOw hb11 hyx hyA a1
        go_wp2_with fail
        refine HG6.out.mono ?_
        rintro e w12 ⟨rfl, hb12⟩
        have hy12 := HY11.out.belowS hb12
        have HY12 := hid (hy12.alloc (.cells #[.int .i64 e0, .int .i64 e1, .int .i64 (max e2 q), .bool e3, .string e4] 26))
        have Hb12 := hid (Below.step Hb11.out hb12 hz11)
        have hz12 := Hb12.out.size
        have z1 : w12.cell? ⟨w8.heap.size, 1, none⟩ = some (.int .i64 e1) := hy12.cell 1
        have z2 : w12.cell? ⟨w8.heap.size, 2, none⟩ = some (.int .i64 e2) := hy12.cell 2
        have z4 : w12.cell? ⟨w8.heap.size, 4, none⟩ = some (.string e4) := hy12.cell 4
        have hl12 := hy12.lt
        have m1 : e2 ≤ max e2 q := by omega
        have m2 : q ≤ max e2 q := by omega
        obtain ⟨mm, hmm⟩ : ∃ mm, max e2 q = mm := ⟨_, rfl⟩
        rw [hmm] at m1 m2 HY12 ⊢
        clear hb12 hy12 hmm
        have Hb13 := hid (Hb12.out.alloc hz12 (.cells #[.int .i64 e0, .int .i64 e1, .int .i64 mm, .bool e3, .string e4] 26))
        go_wp2_with fail
        clear z1 z2 z4
        obtain ⟨w13, hw13⟩ : ∃ w13 : World, w13 = w12.alloc (.cells #[.int .i64 e0, .int .i64 e1, .int .i64 mm, .bool e3, .string e4] 26) := ⟨_, rfl⟩
        rw [← hw13] at Hb13 HY12 ⊢
        have hz13 := Hb13.out.size
        clear hw13
        have HT5 := hid (touch_any s k (e2 + 1) q w13 (HS.out _ Hb13.out))
        unfold CRes at HT5
        rcases HT4.out with ⟨k0, kg, kget, klen⟩ | kne
        · rw [k0, errV_zero] at HT5
          have HKg := hid kg
          have HKget := hid kget
          have HKl := hid klen
          clear k0 kg kget klen
          generalize (touchR s.xs k (e2 + 1) q).1 = LL at *
          refine HT5.out.mono ?_
          rintro e w20 ⟨v20, rfl, hOw, hb20⟩
          obtain ⟨y2, rfl, hyx, hyA⟩ := RowV.of_ow hOw HKg.out
          have Hb20 := hid (Below.step Hb13.out hb20 hz13)
          have hz20 := Hb20.out.size
          have HG5 := hid (get_any y2 k w20 hyA.entries)
          rw [hyx, HKget.out, errV_ne (by decide)] at HG5
          unfold E.val E.zero at HG5
          have Hyx2 := hid hyx
          rw [hyx]
          clear hOw hb20 hyx hyA
          go_wp2_with fail
          refine HG5.out.mono ?_
          rintro e w21 ⟨rfl, hb21⟩
          have Hb21 := hid (Below.step Hb20.out hb21 hz20)
          have hz21 := Hb21.out.size
          have HE5 := hid (error_any 5 5 w21 (HG.out _ Hb21.out))
          rw [errV_ne (by decide), beq_self_eq_true] at HE5
          have hlk := HKl.out
          have hlc : (((LL.length : Nat) : Int) == ((s.xs.length : Nat) : Int) - 1) = true := by rw [beq_iff_eq]; omega
          clear hb21
          go_wp2_with fail
          refine HE5.out.mono ?_
          rintro e w22 ⟨rfl, hb22⟩
          have Hb22 := hid (Below.step Hb21.out hb22 hz21)
          clear hb22
          go_wp2_with fail
          go_ret
          exact ⟨rfl, Hb22.out⟩
        · have Hen2 := hid (errV_ne kne)
          generalize (touchR s.xs k (e2 + 1) q).2 = en2 at *
          clear kne
          refine HT5.out.mono ?_
          rintro e w20 ⟨v20, rfl, _, hb20⟩
          rw [Hen2.out]
          have Hb20 := hid (Below.step Hb13.out hb20 hz13)
          clear hb20
          go_wp2_with fail
          go_ret
          exact ⟨rfl, Hb20.out⟩
      · have Hen := hid (errV_ne kne)
        generalize (touchR s.xs k e1 q).2 = en at *
        clear kne
        refine HT6.out.mono ?_
        rintro e w11 ⟨v11, rfl, _, hb11⟩
        rw [Hen.out]
        have HY11 := hid (HY10.out.belowS hb11)
        have Hb11 := hid (Below.step Hb10.out hb11 hz10)
        have hz11 := Hb11.out.size
        clear hb11 a1
        go_upto_region 21 with fail
        have a2 : w11.cell? ⟨w8.heap.size, 2, none⟩ = some (.int .i64 e2) := HY11.out.cell 2
        have hlb := HY11.out.lt
        go_wp2_with fail
        have HT5 := hid (touch_any s k (e2 + 1) q w11 (HS.out _ Hb11.out))
        unfold CRes at HT5
        rcases HT4.out with ⟨k0, kg, kget, klen⟩ | kne
        · rw [k0, errV_zero] at HT5
          have HKg := hid kg
          have HKget := hid kget
          have HKl := hid klen
          clear k0 kg kget klen
          generalize (touchR s.xs k (e2 + 1) q).1 = LL at *
          refine HT5.out.mono ?_
          rintro e w20 ⟨v20, rfl, hOw, hb20⟩
          obtain ⟨y2, rfl, hyx, hyA⟩ := RowV.of_ow hOw HKg.out
          have Hb20 := hid (Below.step Hb11.out hb20 hz11)
          have hz20 := Hb20.out.size
          have HG5 := hid (get_any y2 k w20 hyA.entries)
          rw [hyx, HKget.out, errV_ne (by decide)] at HG5
          unfold E.val E.zero at HG5
          have Hyx2 := hid hyx
          rw [hyx]
          clear hOw hb20 hyx hyA a2
          go_wp2_with fail
          refine HG5.out.mono ?_
          rintro e w21 ⟨rfl, hb21⟩
          have Hb21 := hid (Below.step Hb20.out hb21 hz20)
          have hz21 := Hb21.out.size
          have HE5 := hid (error_any 5 5 w21 (HG.out _ Hb21.out))
          rw [errV_ne (by decide), beq_self_eq_true] at HE5
          have hlk := HKl.out
          have hlc : (((LL.length : Nat) : Int) == ((s.xs.length : Nat) : Int) - 1) = true := by rw [beq_iff_eq]; omega
          clear hb21
          go_wp2_with fail
          refine HE5.out.mono ?_
          rintro e w22 ⟨rfl, hb22⟩
          have Hb22 := hid (Below.step Hb21.out hb22 hz21)
          clear hb22
          go_wp2_with fail
          go_ret
          exact ⟨rfl, Hb22.out⟩
        · have Hen2 := hid (errV_ne kne)
          generalize (touchR s.xs k (e2 + 1) q).2 = en2 at *
          clear kne
          refine HT5.out.mono ?_
          rintro e w20 ⟨v20, rfl, _, hb20⟩
          rw [Hen2.out]
          have Hb20 := hid (Below.step Hb11.out hb20 hz11)
          clear hb20 a2
          go_wp2_with fail
          go_ret
          exact ⟨rfl, Hb20.out⟩
    · have Hen := hid (errV_ne h0)
      have HFe2 := hid (show xe = ge by
        have := HFe.out
        rw [if_neg h0] at this
        exact (Prod.mk.inj this).2)
      have hxe := errV_ne (show xe ≠ 0 by rw [HFe2.out]; exact h0)
      have Hxe := hid hxe
      clear hxe
      refine (HGt.out w7 Hb7.out).mono ?_
      rintro e w8 ⟨rfl, hb8⟩
      have Hb8 := hid (Below.step Hb7.out hb8 hz7)
      have hz8 := Hb8.out.size
      clear hb8 h0
      simp only
      rw [Hen.out, Hxe.out]
      go_wp2_with fail
      go_ret
      exact ⟨rfl, Hb8.out.alloc hz8 _⟩
  · have Hen := hid (errV_ne hse)
    rw [Hen.out] at HSt
    clear hse
    refine HSt.out.mono ?_
    rintro e w5 ⟨v5, rfl, _, hb5⟩
    have Hb5 := hid (Below.step Hb4.out hb5 hz4)
    clear hb5
    go_wp2_with fail
    go_ret
    exact ⟨rfl, Hb5.out⟩

set_option maxRecDepth 100000 in
theorem freshTrue_walk : LawWalk Tryd.prog 4 Tryd.f4 Gl := by
  intro W base args H enc ds p hval hA hgl
  rw [Tryd.params4] at hA hval
  obtain ⟨v0, v1, v2, v3, d0, d1, d2, d3, p0, p1, p2, p3, rfl, rfl, rfl, h0, h1, h2, h3⟩ := trodAll_four hA
  obtain ⟨s, rfl, hs⟩ := arg_slice Tryd.underlying22 codecEntry (pos_of_eq Tryd.cellsEntry (by decide)) (hval 0 22 v0 rfl rfl) h0
  obtain ⟨k, rfl, _⟩ := arg_int Tryd.underlying3 (hval 1 3 v1 rfl rfl) h1
  obtain ⟨f, rfl, _⟩ := arg_int Tryd.underlying3 (hval 2 3 v2 rfl rfl) h2
  obtain ⟨q, rfl, _⟩ := arg_int Tryd.underlying3 (hval 3 3 v3 rfl rfl) h3
  exact freshTrue_any s k f q W (entriesAt_of hs).es hgl

set_option maxRecDepth 100000 in
theorem freshTrue_lifted (os : Os) (started : os.Started) (H : Type) (enc : TypeId × Value → H) :
    ReturnsInHanded {} Tryd.checked os 4 .any (fun w args => (Rows.freshTrueSpec.pre enc Tryd.checked.prog Tryd.f4 [] false w args ∧ laidMetH Tryd.prog theLaid w) ∧ sizedMet enc Tryd.checked.prog Tryd.f4 (OpenSpec.ofChange Rows.freshTrueSpec) false w args) (Rows.freshTrueSpec.post enc Tryd.checked.prog Tryd.f4 false true false false) :=
  laid_lifted (C := Tryd.checked) theLaid (fun _ h => handle_of_laid h) [] Tryd.own started (by kernel_rfl) Tryd.func4 Tryd.laidOut (by kernel_rfl) rfl Tryd.underlying4 rfl (fun ds h => by match ds, h with | [_, _, _, _], _ => rfl)
    (ChangeSpec.witness_at (enc := enc) (C := Tryd.checked) (os := os) (X := fun w _ => laidMetH Tryd.prog theLaid w) false (laidWorld os) #[.slice none 0 0, .int .i64 0, .int .i64 0, .int .i64 0] 8 rfl (by kernel_rfl) (by kernel_rfl) (by kernel_rfl) (by kernel_rfl) (by kernel_rfl) (laidWorld_met os _)) freshTrue_walk

theorem freshTrue_row : Rows.FreshTrueSaid :=
  OpenClaim.holds_of_wide 4 Tryd.f4 rfl rfl rfl rfl rfl rfl rfl ⟨rfl, rfl, rfl, rfl, rfl⟩ rfl rfl rfl rfl rfl (by kernel_rfl) Tryd.func4 (by kernel_rfl)
    (of_decide_eq_true (by kernel_rfl)) (by unfold Func.isWrapper; rw [if_neg (of_decide_eq_false (by kernel_rfl))]; exact ⟨rfl, rfl⟩)
    (fun os started H enc _ => freshTrue_lifted os started H enc)

theorem freshTrue_holds : Rows.FreshTrueCardSaid :=
  Claim7.holds_tied_plain_at .later [] [.handle] true _ true
    freshTrue_row (fun _ h => by cases h) (by kernel_rfl) (fun _ h => by cases h) freshTrue_row_tie rfl ⟨rfl, rfl⟩ (by kernel_rfl) rfl
    (fun f fn hf hfn => by
      obtain rfl : f = 4 := Option.some.inj ((show Tryd.prog.funcNamed "beaconmere/merelaw1.FreshTrue" = some 4 by kernel_rfl).symm.trans hf) |>.symm
      obtain rfl : fn = Tryd.f4 := (Option.some.inj (Tryd.func4.symm.trans hfn)).symm
      refine ⟨by kernel_rfl, fun j t ht => ?_⟩
      have hall : Tryd.f4.params.toList.all (fun t => !Tryd.prog.wantsStandIn t) = true := by kernel_rfl
      have hm : t ∈ Tryd.f4.params.toList := by
        obtain ⟨hj, hje⟩ := Array.getElem?_eq_some_iff.1 ht
        rw [← hje]
        exact Array.mem_toList_iff.2 (Array.getElem_mem hj)
      have := List.all_eq_true.1 hall t hm
      exact (show Tryd.prog.wantsStandIn t = false by simpa using this))
    (by kernel_rfl)

end Go.Proofs.YtgfbpabffnabaaaDoor
