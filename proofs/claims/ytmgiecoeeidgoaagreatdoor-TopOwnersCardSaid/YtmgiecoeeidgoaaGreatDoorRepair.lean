/-
  CONTRACTS of repair.Read, Lacks and Write, at any caches. CONDITIONS: none.
  CONTRACTS of repair.Lacks and Write, at any caches. CONDITIONS: none.
-/
import Derived.Test.YtmgiecoeeidgoaaGreatDoorRepLaw
import Derived.Test.YtmgiecoeeidgoaaGreatDoorBoxR
import Derived.Test.YtmgiecoeeidgoaaGreatDoorRowE
import Derived.Test.YtmgiecoeeidgoaaGreatDoorIKit
import Derived.Test.YtmgiecoeeidgoaaGreatDoorCAll
import Derived.Deep.RegionLaw
import Derived.Deep.CutBlock
import Derived.Deep.DeepCutAuto
namespace Go.Proofs.YtmgiecoeeidgoaaGreatDoor
open Go.RowKit
open Go.ChangeShapes Go.WideShapes Go.ChangeAt

set_option maxHeartbeats 8000000 in
set_option maxRecDepth 100000 in
theorem read_any (s : SlV (SlV E)) (k : Int) (w : World) (hs : CachesAt w s) :
    Calls Tryz.prog 14 #[.slice s.A s.xs.length s.c, .int .i64 k] w fun e w' => e = .returned (.tuple #[(readR s.xs k).1.val, errV (readR s.xs k).2]) ∧ Below w.heap.size w w' := by
  obtain ⟨r, hr⟩ : ∃ r, readR s.xs k = r := ⟨_, rfl⟩
  rw [hr]
  unfold readR at hr
  by_cases hc : chkTK s.xs k = 0
  · rw [if_pos hc] at hr
    obtain ⟨⟨h1, h6⟩, hch, hk⟩ := chkTK_ok hc
    have Hc := hid hc
    have Hk := hid hk
    have Hch := hid hch
    have Hr := hid hr
    clear hc hk hch hr
    go_enter Tryz.func14, Tryz.ntmps14
    go_wp2_with fail
    refine (tkey_any s k _ (hs.stays (by (repeat (first | with_reducible exact Below.refl _ _ | with_reducible assumption | (with_reducible refine Below.drew ?_) | (with_reducible refine Below.manyDrew ?_ _) | ((with_reducible refine Below.alloc ?_ ?_ _); rotate_left; (focus (first | omega | (dsimp only; omega) | (simp; done) | (simp; omega)))) | ((with_reducible refine Below.setCell ?_ ?_ _); rotate_left; (focus (first | omega | (dsimp only; omega) | (simp; done) | (simp; omega)))) | ((with_reducible refine Below.step ?_ (by assumption) ?_); rotate_left; (focus (first | omega | (dsimp only; omega) | (simp; done) | (simp; omega))))))))).mono ?_; rintro e w1 ⟨rfl, hb1⟩; obtain ⟨hc1, hf1⟩ := bcell hb1; have hz1 := hb1.size; (try simp only [World.size_alloc] at hz1); (try simp only [World.size_setCell] at hz1)
    rw [Hc.out, show errV 0 = .nilIface from rfl]
    have hl1 : w.heap.size < w1.heap.size := by omega
    go_wp2_with fail
    have hb1x : Below w.heap.size w w1 := by (repeat (first | with_reducible exact Below.refl _ _ | with_reducible assumption | (with_reducible refine Below.drew ?_) | (with_reducible refine Below.manyDrew ?_ _) | ((with_reducible refine Below.alloc ?_ ?_ _); rotate_left; (focus (first | omega | (dsimp only; omega) | (simp; done) | (simp; omega)))) | ((with_reducible refine Below.setCell ?_ ?_ _); rotate_left; (focus (first | omega | (dsimp only; omega) | (simp; done) | (simp; omega)))) | ((with_reducible refine Below.step ?_ (by assumption) ?_); rotate_left; (focus (first | omega | (dsimp only; omega) | (simp; done) | (simp; omega))))))
    go_loopw [8, 24] (fun f i wr => ∃ (j : Nat) (fb : Bool) (o : E), j ≤ s.xs.length ∧ f = .bool fb ∧ i = .int .i64 j ∧ (fb = true → 1 ≤ j) ∧ readG k fb o (s.xs.drop j) = r ∧ Blk wr w1.heap.size 38 #[.int .i64 o.key, .int .i64 o.ver, .int .i64 o.asof, .bool o.gone, .string o.text] ∧ Below w1.heap.size w1 wr) (fun _ i _ => s.xs.length - (intOf i).toNat)
    case atStart => exact ⟨0, false, E.zero, Nat.zero_le _, rfl, rfl, by decide, Hr.out, Blk.new_at (by simp), by (repeat (first | with_reducible exact Below.refl _ _ | with_reducible assumption | (with_reducible refine Below.drew ?_) | (with_reducible refine Below.manyDrew ?_ _) | ((with_reducible refine Below.alloc ?_ ?_ _); rotate_left; (focus (first | omega | (dsimp only; omega) | (simp; done) | (simp; omega)))) | ((with_reducible refine Below.setCell ?_ ?_ _); rotate_left; (focus (first | omega | (dsimp only; omega) | (simp; done) | (simp; omega)))) | ((with_reducible refine Below.step ?_ (by assumption) ?_); rotate_left; (focus (first | omega | (dsimp only; omega) | (simp; done) | (simp; omega))))))⟩
    case round =>
      obtain ⟨j, fb, o, hj, rfl, rfl, hf1, hkr, hB, hbr⟩ := hrel
      have hz0 := hbr.size
      have hlo := hB.lt
      have hbw : Below w.heap.size w wr := Below.step hb1x hbr (by omega)
      by_cases hlt : j < s.xs.length
      · obtain ⟨b, off, hA, hb, hcells⟩ := hs.row (by omega)
        have hcell := hcells j hlt
        have hin := (hs.each j hlt).stays hbw
        rw [← hbw.cell (p := ⟨b, off + j, none⟩) hb] at hcell
        have hd : s.xs.drop j = s.xs[j] :: s.xs.drop (j + 1) := List.drop_eq_getElem_cons hlt
        rw [hd, readG] at hkr
        obtain ⟨hn, _, hS, hK⟩ := chkC_ok (Hch.out _ (List.getElem_mem hlt))
        generalize s.xs[j] = c at *
        have HS := hid hS
        have HK := hid hK
        rcases hh : hasK k c.xs with _ | _
        · rw [if_neg (by simp [hh])] at hkr
          have Hkr := hid hkr
          have Hh := hid hh
          have Hf1 := hid hf1
          rw [hA]
          clear hA hcells hd hkr hS hK hh hf1
          go_wp2_with fail
          refine (place_any k c _ hin HS.out HK.out (keyB_true.1 Hk.out) hn).mono ?_; rintro e w2 ⟨rfl, hb2⟩; obtain ⟨hc2, hf2⟩ := bcell hb2; have hz2 := hb2.size; (try simp only [World.size_alloc] at hz2); (try simp only [World.size_setCell] at hz2)
          rw [Hh.out]
          go_wp2_with fail
          go_roundw
          case rel => exact ⟨j + 1, fb, o, by omega, rfl, by go_num, (fun h => by omega), Hkr.out, hB.belowS hb2, by (repeat (first | with_reducible exact Below.refl _ _ | with_reducible assumption | (with_reducible refine Below.drew ?_) | (with_reducible refine Below.manyDrew ?_ _) | ((with_reducible refine Below.alloc ?_ ?_ _); rotate_left; (focus (first | omega | (dsimp only; omega) | (simp; done) | (simp; omega)))) | ((with_reducible refine Below.setCell ?_ ?_ _); rotate_left; (focus (first | omega | (dsimp only; omega) | (simp; done) | (simp; omega)))) | ((with_reducible refine Below.step ?_ (by assumption) ?_); rotate_left; (focus (first | omega | (dsimp only; omega) | (simp; done) | (simp; omega))))))⟩
          case measure => simp [intOf]; omega
        · have hp : plc k c.xs < c.xs.length := by
            unfold hasK at hh
            simp at hh
            exact hh.1
          obtain ⟨g, off2, hA2, hg, hcells2⟩ := hin.get (by omega)
          have hE := hcells2 _ hp
          have hcl := hin.len
          unfold maxLen at hcl
          rcases fb with _ | _
          · rw [if_pos hh, if_neg (by decide)] at hkr
            generalize c.xs.getD (plc k c.xs) E.zero = x at *
            have Hkr := hid hkr
            have Hh := hid hh
            have HA2 := hid hA2
            rw [hA]
            clear hA hcells hd hkr hS hK hh hcells2 hA2 hf1
            go_wp2_with fail
            refine (place_any k c _ hin HS.out HK.out (keyB_true.1 Hk.out) hn).mono ?_; rintro e w2 ⟨rfl, hb2⟩; obtain ⟨hc2, hf2⟩ := bcell hb2; have hz2 := hb2.size; (try simp only [World.size_alloc] at hz2); (try simp only [World.size_setCell] at hz2)
            obtain ⟨k0, k1, k2, k3, k4⟩ := hE
            have hx0 : wr.cell? ⟨w1.heap.size, 0, none⟩ = some (.int .i64 o.key) := hB.cell 0
            have hx1 : wr.cell? ⟨w1.heap.size, 1, none⟩ = some (.int .i64 o.ver) := hB.cell 1
            have hx2 : wr.cell? ⟨w1.heap.size, 2, none⟩ = some (.int .i64 o.asof) := hB.cell 2
            have hx3 : wr.cell? ⟨w1.heap.size, 3, none⟩ = some (.bool o.gone) := hB.cell 3
            have hx4 : wr.cell? ⟨w1.heap.size, 4, none⟩ = some (.string o.text) := hB.cell 4
            have f0 := hB.frozen 0
            have f1 := hB.frozen 1
            have f2 := hB.frozen 2
            have f3 := hB.frozen 3
            have f4 := hB.frozen 4
            rw [Hh.out, HA2.out]
            rw [HA2.out] at hcell
            obtain ⟨xk, xv, xa, xg, xt⟩ := x
            simp only at k0 k1 k2 k3 k4
            generalize plc k c.xs = q at *
            have hB2 := hB.belowS hb2
            go_wp2_with fail
            go_roundw
            case rel => exact ⟨j + 1, true, ⟨xk, xv, xa, xg, xt⟩, by omega, rfl, by go_num, (fun _ => by omega), Hkr.out, Blk.put5 hB2 _ _ _ _ _, by (repeat (first | with_reducible exact Below.refl _ _ | with_reducible assumption | (with_reducible refine Below.drew ?_) | (with_reducible refine Below.manyDrew ?_ _) | ((with_reducible refine Below.alloc ?_ ?_ _); rotate_left; (focus (first | omega | (dsimp only; omega) | (simp; done) | (simp; omega)))) | ((with_reducible refine Below.setCell ?_ ?_ _); rotate_left; (focus (first | omega | (dsimp only; omega) | (simp; done) | (simp; omega)))) | ((with_reducible refine Below.step ?_ (by assumption) ?_); rotate_left; (focus (first | omega | (dsimp only; omega) | (simp; done) | (simp; omega))))))⟩
            case measure => simp [intOf]; omega
          · rw [if_pos hh, if_pos rfl] at hkr
            generalize c.xs.getD (plc k c.xs) E.zero = x at *
            obtain ⟨xk, xv, xa, xg, xt⟩ := x
            obtain ⟨ok, ov, oa, og, ot⟩ := o
            have hJ := fun W => joined_any ok ov oa og ot xk xv xa xg xt W
            generalize joined ⟨ok, ov, oa, og, ot⟩ ⟨xk, xv, xa, xg, xt⟩ = R at *
            obtain ⟨⟨r0, r1, r2, r3, r4⟩, en⟩ := R
            simp only [E.val] at hJ hkr
            obtain ⟨ev, hev⟩ : ∃ ev, errV en = ev := ⟨_, rfl⟩
            rw [hev] at hJ
            have HJ := hid hJ
            have Hev := hid hev
            have Hkr := hid hkr
            have Hh := hid hh
            have HA2 := hid hA2
            have HE := hid (show ∀ W, Below wr.heap.size wr W → EAt W g (off2 + plc k c.xs * 5) ⟨xk, xv, xa, xg, xt⟩ from fun W hW => hE.stays hW hg)
            have HB := hid (show ∀ W, Below wr.heap.size wr W → Blk W w1.heap.size 38 #[.int .i64 ok, .int .i64 ov, .int .i64 oa, .bool og, .string ot] from fun W hW => hB.belowS hW)
            have Hbr := hid hbr
            have Hbw := hid hbw
            rw [hA]
            clear hA hcells hd hkr hS hK hh hcells2 hA2 hf1 hJ hev hE hB hbr hbw
            go_wp2_with fail
            refine (place_any k c _ hin HS.out HK.out (keyB_true.1 Hk.out) hn).mono ?_
            rintro e w2 ⟨rfl, hb2⟩
            obtain ⟨k0, k1, k2, k3, k4⟩ := HE.out _ hb2
            have hB2 := HB.out _ hb2
            have d0 : w2.cell? ⟨w1.heap.size, 0, none⟩ = some (.int .i64 ok) := hB2.cell 0
            have d1 : w2.cell? ⟨w1.heap.size, 1, none⟩ = some (.int .i64 ov) := hB2.cell 1
            have d2 : w2.cell? ⟨w1.heap.size, 2, none⟩ = some (.int .i64 oa) := hB2.cell 2
            have d3 : w2.cell? ⟨w1.heap.size, 3, none⟩ = some (.bool og) := hB2.cell 3
            have d4 : w2.cell? ⟨w1.heap.size, 4, none⟩ = some (.string ot) := hB2.cell 4
            have hz2 := hb2.size
            have hl2 : w1.heap.size < w2.heap.size := by omega
            have hg2 : g < w2.heap.size := by omega
            have hp0 : (0 : Int) ≤ (plc k c.xs : Int) := by omega
            have hpi : (plc k c.xs : Int) < (c.xs.length : Int) := by omega
            have Hb2 := hid hb2
            rw [Hh.out, HA2.out]
            simp only at k0 k1 k2 k3 k4
            generalize plc k c.xs = q at *
            clear hB2 hb2 hcell hin
            go_upto_region 13 with fail
            go_cut [13, 14] (fun a er wx => er = ev ∧ BoxR w2 #[.int .i64 r0, .int .i64 r1, .int .i64 r2, .bool r3, .string r4] a wx)
            case first =>
              go_region_law (first | (go_simp; go_at_call 45; refine (HJ.out _).mono ?_; rintro e wj ⟨rfl, hbj⟩; obtain ⟨hcj, hfj⟩ := bcell hbj; have hzj := hbj.size; (try simp only [World.size_alloc] at hzj)))
              all_goals
                go_wp2_with fail
                go_meet
                refine ⟨rfl, ?_⟩
                have hb2j : Below w2.heap.size w2 wj := by (repeat (first | with_reducible exact Below.refl _ _ | with_reducible assumption | (with_reducible refine Below.drew ?_) | (with_reducible refine Below.manyDrew ?_ _) | ((with_reducible refine Below.alloc ?_ ?_ _); rotate_left; (focus (first | omega | (dsimp only; omega) | (simp; done) | (simp; omega)))) | ((with_reducible refine Below.setCell ?_ ?_ _); rotate_left; (focus (first | omega | (dsimp only; omega) | (simp; done) | (simp; omega)))) | ((with_reducible refine Below.step ?_ (by assumption) ?_); rotate_left; (focus (first | omega | (dsimp only; omega) | (simp; done) | (simp; omega))))))
                first
                  | with_reducible exact BoxR.mk2 (g := w2.heap.size) (Blk.newA hbj) (Nat.le_refl _) hb2j
                  | with_reducible exact BoxR.mk2 (g := w2.heap.size) (Blk.newD hbj) (Nat.le_refl _) hb2j
                  | with_reducible exact BoxR.mk1 hb2j rfl
            case rest =>
            obtain ⟨rfl, g9, rfl, hg9, hB9, hb9⟩ := hcut
            obtain ⟨w3, rfl⟩ : ∃ w3 : World, w3 = wc := ⟨_, rfl⟩
            have hb3 : Below wr.heap.size wr w3 := Below.step Hb2.out hb9 hz2
            have hB3 := HB.out _ hb3
            have Hb3 := hid hb3
            have Hbw3 := hid (Below.step Hbr.out hb3 hz0)
            have hz3 := hb3.size
            have hl3 : w1.heap.size < w3.heap.size := by omega
            by_cases hen : en = 0
            · subst hen
              have Hkr2 := hid ((if_pos rfl).symm.trans Hkr.out)
              have e0 : w3.cell? ⟨g9, 0, none⟩ = some (.int .i64 r0) := hB9.cell 0
              have e1 : w3.cell? ⟨g9, 1, none⟩ = some (.int .i64 r1) := hB9.cell 1
              have e2 : w3.cell? ⟨g9, 2, none⟩ = some (.int .i64 r2) := hB9.cell 2
              have e3 : w3.cell? ⟨g9, 3, none⟩ = some (.bool r3) := hB9.cell 3
              have e4 : w3.cell? ⟨g9, 4, none⟩ = some (.string r4) := hB9.cell 4
              have x0 : w3.cell? ⟨w1.heap.size, 0, none⟩ = some (.int .i64 ok) := hB3.cell 0
              have x1 : w3.cell? ⟨w1.heap.size, 1, none⟩ = some (.int .i64 ov) := hB3.cell 1
              have x2 : w3.cell? ⟨w1.heap.size, 2, none⟩ = some (.int .i64 oa) := hB3.cell 2
              have x3 : w3.cell? ⟨w1.heap.size, 3, none⟩ = some (.bool og) := hB3.cell 3
              have x4 : w3.cell? ⟨w1.heap.size, 4, none⟩ = some (.string ot) := hB3.cell 4
              have f0 := hB3.frozen 0
              have f1 := hB3.frozen 1
              have f2 := hB3.frozen 2
              have f3 := hB3.frozen 3
              have f4 := hB3.frozen 4
              have HB3 := hid hB3
              rw [← Hev.out, show errV 0 = .nilIface from rfl]
              clear hB9 hb9 hB3 hb3 d0 d1 d2 d3 d4 k0 k1 k2 k3 k4 Hkr
              go_wp2_with fail
              go_roundw
              case rel => exact ⟨j + 1, true, ⟨r0, r1, r2, r3, r4⟩, by omega, rfl, by go_num, (fun _ => by omega), Hkr2.out, Blk.put5 HB3.out _ _ _ _ _, by have := Hbw3.out; (repeat (first | with_reducible exact Below.refl _ _ | with_reducible assumption | (with_reducible refine Below.drew ?_) | (with_reducible refine Below.manyDrew ?_ _) | ((with_reducible refine Below.alloc ?_ ?_ _); rotate_left; (focus (first | omega | (dsimp only; omega) | (simp; done) | (simp; omega)))) | ((with_reducible refine Below.setCell ?_ ?_ _); rotate_left; (focus (first | omega | (dsimp only; omega) | (simp; done) | (simp; omega)))) | ((with_reducible refine Below.step ?_ (by assumption) ?_); rotate_left; (focus (first | omega | (dsimp only; omega) | (simp; done) | (simp; omega))))))⟩
              case measure => simp [intOf]; omega
            · have hrr : r = (E.zero, en) := by rw [← Hkr.out, if_neg hen]
              have hee := Hev.out.symm.trans (errV_ne hen)
              have hBx := (Blk.new w 38 #[.int .i64 0, .int .i64 0, .int .i64 0, .bool false, .string ⟨#[]⟩]).belowS hb1
              have HBy := hid (hBx.below Hbw3.out (by omega))
              have by_ := HBy.out
              have y0 : w3.cell? ⟨w.heap.size, 0, none⟩ = some (.int .i64 0) := by_.cell 0
              have y1 : w3.cell? ⟨w.heap.size, 1, none⟩ = some (.int .i64 0) := by_.cell 1
              have y2 : w3.cell? ⟨w.heap.size, 2, none⟩ = some (.int .i64 0) := by_.cell 2
              have y3 : w3.cell? ⟨w.heap.size, 3, none⟩ = some (.bool false) := by_.cell 3
              have y4 : w3.cell? ⟨w.heap.size, 4, none⟩ = some (.string ⟨#[]⟩) := by_.cell 4
              have f0 := by_.frozen 0
              have f1 := by_.frozen 1
              have f2 := by_.frozen 2
              have f3 := by_.frozen 3
              have f4 := by_.frozen 4
              have Hrr := hid hrr
              have Hen := hid (errV_ne hen)
              subst hee
              clear hB9 hb9 hB3 hb3 d0 d1 d2 d3 d4 k0 k1 k2 k3 k4 Hkr hrr hen hBx by_
              go_wp2_with fail
              refine bodyPost_ret (v := .tuple #[E.zero.val, errV en]) ?_ rfl ⟨by rw [Hrr.out], ?_⟩
              · rw [Hen.out]
                exact results_box Tryz.results14 rfl (Blk.put5 HBy.out _ _ _ _ _) Tryz.underlying38 rfl (by kernel_rfl)
              · have := Hbw3.out; (repeat (first | with_reducible exact Below.refl _ _ | with_reducible assumption | (with_reducible refine Below.drew ?_) | (with_reducible refine Below.manyDrew ?_ _) | ((with_reducible refine Below.alloc ?_ ?_ _); rotate_left; (focus (first | omega | (dsimp only; omega) | (simp; done) | (simp; omega)))) | ((with_reducible refine Below.setCell ?_ ?_ _); rotate_left; (focus (first | omega | (dsimp only; omega) | (simp; done) | (simp; omega)))) | ((with_reducible refine Below.step ?_ (by assumption) ?_); rotate_left; (focus (first | omega | (dsimp only; omega) | (simp; done) | (simp; omega))))))
      · obtain rfl : j = s.xs.length := by omega
        rw [List.drop_length, readG] at hkr
        obtain ⟨hcr, hfr⟩ := bcell hbr
        have hBx := (Blk.new w 38 #[.int .i64 0, .int .i64 0, .int .i64 0, .bool false, .string ⟨#[]⟩]).belowS hb1
        have hBy := hBx.below hbr (by omega)
        rcases fb with _ | _
        · rw [if_neg (by decide)] at hkr
          subst hkr
          go_wp2_with fail
          refine bodyPost_ret (v := .tuple #[E.zero.val, errV 5]) ?_ rfl ⟨rfl, ?_⟩
          · exact results_box Tryz.results14 rfl (Blk.put5 hBy _ _ _ _ _) Tryz.underlying38 rfl (by kernel_rfl)
          · (repeat (first | with_reducible exact Below.refl _ _ | with_reducible assumption | (with_reducible refine Below.drew ?_) | (with_reducible refine Below.manyDrew ?_ _) | ((with_reducible refine Below.alloc ?_ ?_ _); rotate_left; (focus (first | omega | (dsimp only; omega) | (simp; done) | (simp; omega)))) | ((with_reducible refine Below.setCell ?_ ?_ _); rotate_left; (focus (first | omega | (dsimp only; omega) | (simp; done) | (simp; omega)))) | ((with_reducible refine Below.step ?_ (by assumption) ?_); rotate_left; (focus (first | omega | (dsimp only; omega) | (simp; done) | (simp; omega))))))
        · rw [if_pos rfl] at hkr
          subst hkr
          have hx0 : wr.cell? ⟨w1.heap.size, 0, none⟩ = some (.int .i64 o.key) := hB.cell 0
          have hx1 : wr.cell? ⟨w1.heap.size, 1, none⟩ = some (.int .i64 o.ver) := hB.cell 1
          have hx2 : wr.cell? ⟨w1.heap.size, 2, none⟩ = some (.int .i64 o.asof) := hB.cell 2
          have hx3 : wr.cell? ⟨w1.heap.size, 3, none⟩ = some (.bool o.gone) := hB.cell 3
          have hx4 : wr.cell? ⟨w1.heap.size, 4, none⟩ = some (.string o.text) := hB.cell 4
          obtain ⟨ok, ov, oa, og, ot⟩ := o
          simp only at hx0 hx1 hx2 hx3 hx4
          go_wp2_with fail
          refine bodyPost_ret (v := .tuple #[E.val ⟨ok, ov, oa, og, ot⟩, errV 0]) ?_ rfl ⟨rfl, ?_⟩
          · exact results_box Tryz.results14 rfl (Blk.put5 hBy _ _ _ _ _) Tryz.underlying38 rfl (by kernel_rfl)
          · (repeat (first | with_reducible exact Below.refl _ _ | with_reducible assumption | (with_reducible refine Below.drew ?_) | (with_reducible refine Below.manyDrew ?_ _) | ((with_reducible refine Below.alloc ?_ ?_ _); rotate_left; (focus (first | omega | (dsimp only; omega) | (simp; done) | (simp; omega)))) | ((with_reducible refine Below.setCell ?_ ?_ _); rotate_left; (focus (first | omega | (dsimp only; omega) | (simp; done) | (simp; omega)))) | ((with_reducible refine Below.step ?_ (by assumption) ?_); rotate_left; (focus (first | omega | (dsimp only; omega) | (simp; done) | (simp; omega))))))
  · rw [if_neg hc] at hr
    subst hr
    have He := hid (errV_ne hc)
    clear hc
    go_enter Tryz.func14, Tryz.ntmps14
    go_wp2_with fail
    refine (tkey_any s k _ (hs.stays (by (repeat (first | with_reducible exact Below.refl _ _ | with_reducible assumption | (with_reducible refine Below.drew ?_) | (with_reducible refine Below.manyDrew ?_ _) | ((with_reducible refine Below.alloc ?_ ?_ _); rotate_left; (focus (first | omega | (dsimp only; omega) | (simp; done) | (simp; omega)))) | ((with_reducible refine Below.setCell ?_ ?_ _); rotate_left; (focus (first | omega | (dsimp only; omega) | (simp; done) | (simp; omega)))) | ((with_reducible refine Below.step ?_ (by assumption) ?_); rotate_left; (focus (first | omega | (dsimp only; omega) | (simp; done) | (simp; omega))))))))).mono ?_; rintro e w1 ⟨rfl, hb1⟩; obtain ⟨hc1, hf1⟩ := bcell hb1; have hz1 := hb1.size; (try simp only [World.size_alloc] at hz1); (try simp only [World.size_setCell] at hz1)
    rw [He.out]
    have hl1 : w.heap.size < w1.heap.size := by omega
    go_wp2_with fail
    refine bodyPost_ret (v := .tuple #[E.zero.val, errV (chkTK s.xs k)]) ?_ rfl ⟨rfl, ?_⟩
    · rw [He.out]
      exact results_box Tryz.results14 rfl (Blk.put5 ((Blk.new_at (by simp)).belowS hb1) _ _ _ _ _) Tryz.underlying38 rfl (by kernel_rfl)
    · (repeat (first | with_reducible exact Below.refl _ _ | with_reducible assumption | (with_reducible refine Below.drew ?_) | (with_reducible refine Below.manyDrew ?_ _) | ((with_reducible refine Below.alloc ?_ ?_ _); rotate_left; (focus (first | omega | (dsimp only; omega) | (simp; done) | (simp; omega)))) | ((with_reducible refine Below.setCell ?_ ?_ _); rotate_left; (focus (first | omega | (dsimp only; omega) | (simp; done) | (simp; omega)))) | ((with_reducible refine Below.step ?_ (by assumption) ?_); rotate_left; (focus (first | omega | (dsimp only; omega) | (simp; done) | (simp; omega))))))
end Go.Proofs.YtmgiecoeeidgoaaGreatDoor
namespace Go.Proofs.YtmgiecoeeidgoaaGreatDoor
open Go.RowKit
open Go.ChangeShapes Go.WideShapes Go.ChangeAt

theorem tyIE : (3 : TypeId) ≠ 38 := by decide
/-- a row of one's own lies apart from a box of another type -/
theorem Ow.apart {α : Type} {cells : α → List Value} {n base : Nat} {T T' : TypeId} {w : World} {v : Value} {l : List α} (h : Ow cells n base T w v l) {b : Nat} {cs : Array Value} (hB : Blk w b T' cs) (hT : T ≠ T') : ¬ some b = foot v := fun e => by
  obtain ⟨cur, hc⟩ := h.typ e.symm
  exact hT (hc.eq_ hB).2
theorem lacksF_len (k v : Int) : ∀ (l : List (SlV E)) (n : Nat), (lacksF k v n l).length ≤ l.length
  | [], _ => Nat.le_refl _
  | c :: r, n => by
    rw [lacksF]
    have := lacksF_len k v r (n + 1)
    split <;> simp <;> omega
theorem lacksB_has {k v : Int} {c : SlV E} (hc : chkC c.xs = 0) : lacksB k v c = if hasK k c.xs = true then decide ((c.xs.getD (plc k c.xs) E.zero).ver < v) else true := by
  rw [lacksB, at_lk (val_iff.1 hc).1]
  rcases hasK k c.xs with _ | _
  · rw [if_neg (by decide), if_neg (by decide)]
  · rw [if_pos rfl, if_pos rfl]

set_option maxHeartbeats 8000000 in
set_option maxRecDepth 100000 in
theorem lacks_any (s : SlV (SlV E)) (k : Int) (w : World) (hs : CachesAt w s) :
    Calls Tryz.prog 15 #[.slice s.A s.xs.length s.c, .int .i64 k] w fun e w' => ∃ q : SlV Int, e = .returned (.tuple #[.slice q.A q.xs.length q.c, errV (lacksR s.xs k).2]) ∧ q.xs = (lacksR s.xs k).1 ∧ IntsAt w' q ∧ Below w.heap.size w w' := by
  have HRd := hid (read_any s k w hs)
  by_cases h0 : (readR s.xs k).2 = 0
  · obtain ⟨x, hx⟩ : ∃ x, readR s.xs k = (x, 0) := ⟨(readR s.xs k).1, by rw [← h0]⟩
    obtain ⟨hck, _⟩ := readR_zero hx
    obtain ⟨⟨h1, h6⟩, hch, hk⟩ := chkTK_ok hck
    rw [hx] at HRd
    obtain ⟨x0, x1, x2, x3, x4⟩ := x
    have hR : lacksR s.xs k = (lacksF k x1 0 s.xs, 0) := by rw [lacksR, hx, if_pos rfl]
    rw [hR]
    simp only [E.val] at HRd
    rw [errV_zero] at HRd
    rw [errV_zero]
    have Hs := hid hs
    have Hk := hid hk
    have Hch := hid hch
    clear hR hx h0 hck hk hch hs
    go_enter Tryz.func15, Tryz.ntmps15
    go_wp2_with fail
    refine HRd.out.mono ?_
    rintro e w1 ⟨rfl, hb1⟩
    have Hb1 := hid hb1
    have hz1 := hb1.size
    clear hb1 HRd
    go_wp2_with fail
    go_loopw [8, 24] (fun o i wr => ∃ j : Nat, j ≤ s.xs.length ∧ i = .int .i64 j ∧ Ow cellI 1 w.heap.size 3 wr o (lacksF k x1 0 (s.xs.take j)) ∧ Blk wr w1.heap.size 38 #[.int .i64 x0, .int .i64 x1, .int .i64 x2, .bool x3, .string x4] ∧ Below w.heap.size w wr) (fun _ i _ => s.xs.length - (intOf i).toNat)
    case atStart => exact ⟨0, Nat.zero_le _, rfl, Ow.nil _ _ _ _ _, Blk.new _ _ _, Hb1.out.alloc hz1 _⟩
    case round =>
      obtain ⟨j, hj, rfl, hO, hB, hbr⟩ := hrel
      have hz0 := hbr.size
      have hlo := hB.lt
      obtain ⟨Ao, co, hv, -, -, -⟩ := hO.form
      subst hv
      have HO := hid hO
      have HB := hid hB
      have Hbr := hid hbr
      by_cases hlt : j < s.xs.length
      · obtain ⟨b, off, hA, hb, hcells⟩ := Hs.out.row (by omega)
        have hcell := hcells j hlt
        have hin := (Hs.out.each j hlt).stays hbr
        rw [← hbr.cell (p := ⟨b, off + j, none⟩) hb] at hcell
        have hcc := Hch.out _ (List.getElem_mem hlt)
        obtain ⟨hn, _, hS, hK⟩ := chkC_ok hcc
        have hsn : lacksF k x1 0 (s.xs.take (j + 1)) = if lacksB k x1 s.xs[j] = true then lacksF k x1 0 (s.xs.take j) ++ [(j : Int)] else lacksF k x1 0 (s.xs.take j) := by
          rw [List.take_succ_eq_append_getElem hlt, lacksF_snoc, List.length_take, show 0 + min j s.xs.length = j by omega]
        have hll : (lacksF k x1 0 (s.xs.take j)).length ≤ 100000000 := by
          have := lacksF_len k x1 (s.xs.take j) 0
          rw [List.length_take] at this
          omega
        have hlb := lacksB_has (k := k) (v := x1) hcc
        generalize s.xs[j] = c at *
        have HP := hid (place_any k c wr hin hS hK (keyB_true.1 Hk.out) hn)
        generalize hlq : lacksF k x1 0 (s.xs.take j) = L at *
        have HSn := hid hsn
        obtain ⟨lb, hlbe⟩ : ∃ lb, lacksB k x1 c = lb := ⟨_, rfl⟩
        rw [hlbe] at HSn hlb
        have HA := hid hA
        rw [hA]
        clear hA hcells hS hK hsn hO hB hbr hlbe hcc hlq
        rcases hh : hasK k c.xs with _ | _
        · rw [hh, if_neg (by decide)] at hlb
          rw [hh] at HP
          subst hlb
          clear hh
          go_wp2_with fail
          refine HP.out.mono ?_
          rintro e w2 ⟨rfl, hb2⟩
          have hz2 := hb2.size
          have HO2 := hid (HO.out.belowS hb2)
          have HB2 := hid (HB.out.belowS hb2)
          have Hb2 := hid (Below.step Hbr.out hb2 hz0)
          have hl2 : w1.heap.size < w2.heap.size := by omega
          clear hb2 HP hcell hin
          go_wp2_with fail
          go_quiet (fail)
          rename_i nq
          have hz3 : w.heap.size ≤ (w2.drewN nq).heap.size := Hb2.out.size
          go_wp2_with (at_builtin; refine appI _ w.heap.size _ L (j : Int) (HO2.out.drewN nq) rfl _ _ rfl rfl rfl rfl hll hz3 ?_)
          intro v8 w8 h8 f8 o8
          have HB8 := hid ((HB2.out.drewN nq).fr f8 (fun e => (HO2.out.drewN nq).apart (HB2.out.drewN nq) tyIE e))
          have Hb8 := hid ((Below.manyDrew Hb2.out nq).trans (f8.below0 hz3 (fun i hi => (HO2.out.drewN nq).ge _ hi)))
          have HO8 := hid h8
          obtain ⟨A8, c8, hv8, -, -, -⟩ := h8.form
          clear h8 f8 o8
          go_wp2_with fail
          go_roundw
          case rel => exact ⟨j + 1, by omega, by go_num, by rw [HSn.out, if_pos trivial]; exact HO8.out, HB8.out, Hb8.out⟩
          case measure => simp [intOf]; omega
        · have hp : plc k c.xs < c.xs.length := by
            unfold hasK at hh
            simp at hh
            exact hh.1
          rw [hh, if_pos rfl] at hlb
          rw [hh] at HP
          obtain ⟨g, off2, hA2, hg, hcells2⟩ := hin.get (by omega)
          have hE := (hcells2 _ hp).c1
          have hcl := hin.len
          unfold maxLen at hcl
          have hpi : (plc k c.xs : Int) < (c.xs.length : Int) := by omega
          generalize c.xs.getD (plc k c.xs) E.zero = y at *
          obtain ⟨y0, y1, y2, y3, y4⟩ := y
          simp only at hE hlb
          generalize plc k c.xs = q at *
          have HA2 := hid hA2
          have Hlb := hid hlb
          clear hh hcells2 hA2 hlb
          go_wp2_with fail
          refine HP.out.mono ?_
          rintro e w2 ⟨rfl, hb2⟩
          have hz2 := hb2.size
          have HO2 := hid (HO.out.belowS hb2)
          have HB2 := hid (HB.out.belowS hb2)
          have Hb2 := hid (Below.step Hbr.out hb2 hz0)
          have hl2 : w1.heap.size < w2.heap.size := by omega
          have k1 := (hb2.cell (p := ⟨g, _, none⟩) hg).trans hE
          have d1 : w2.cell? ⟨w1.heap.size, 1, none⟩ = some (.int .i64 x1) := HB2.out.cell 1
          have hg2 : g < w2.heap.size := by omega
          rw [HA2.out]
          clear hb2 HP hcell hin hE
          go_upto_region 9 with fail
          go_cut [46] (fun t wx => t = .bool lb ∧ ∃ n, wx = w2.drewN n)
          case first =>
            go_wp2_with fail
            go_quiet (fail)
            go_wp2_with fail
            go_meet
            exact ⟨by rw [Hlb.out], _, rfl⟩
          case rest =>
          obtain ⟨rfl, nq, hwc⟩ := hcut
          obtain ⟨w3, rfl⟩ : ∃ w3 : World, w3 = wc := ⟨_, rfl⟩
          have HO3 := hid (show Ow cellI 1 w.heap.size 3 w3 _ L from by rw [hwc]; exact HO2.out.drewN nq)
          have HB3 := hid (show Blk w3 w1.heap.size 38 #[.int .i64 x0, .int .i64 x1, .int .i64 x2, .bool x3, .string x4] from by rw [hwc]; exact HB2.out.drewN nq)
          have Hb3 := hid (show Below w.heap.size w w3 from by rw [hwc]; exact Below.manyDrew Hb2.out nq)
          have hz3 := Hb3.out.size
          clear hwc k1 d1
          rcases lb with _ | _
          · go_wp2_with fail
            go_roundw
            case rel => exact ⟨j + 1, by omega, by go_num, by rw [HSn.out, if_neg (by decide)]; exact HO3.out, HB3.out, Hb3.out⟩
            case measure => simp [intOf]; omega
          · go_wp2_with (at_builtin; refine appI _ w.heap.size _ L (j : Int) HO3.out rfl _ _ rfl rfl rfl rfl hll hz3 ?_)
            intro v8 w8 h8 f8 o8
            have HB8 := hid (HB3.out.fr f8 (fun e => HO3.out.apart HB3.out tyIE e))
            have Hb8 := hid (Hb3.out.trans (f8.below0 hz3 (fun i hi => HO3.out.ge _ hi)))
            have HO8 := hid h8
            obtain ⟨A8, c8, hv8, -, -, -⟩ := h8.form
            clear h8 f8 o8
            go_wp2_with fail
            go_roundw
            case rel => exact ⟨j + 1, by omega, by go_num, by rw [HSn.out, if_pos trivial]; exact HO8.out, HB8.out, Hb8.out⟩
            case measure => simp [intOf]; omega
      · obtain rfl : j = s.xs.length := by omega
        have hO' := HO.out
        rw [List.take_length] at hO'
        obtain ⟨r, hr, hrx, hrA, -, -⟩ := IntsAt.of_ow hO'
        have hvr := hr
        clear hO' hO hB hbr
        rw [List.take_length]
        rw [hr]
        have Hrx := hid hrx
        have HrA := hid hrA
        clear hr hvr hrx hrA HO
        go_wp2_with fail
        refine bodyPost_ret (v := .tuple #[.slice r.A r.xs.length r.c, .nilIface]) ?_ rfl ⟨r, rfl, Hrx.out, HrA.out, Hbr.out⟩
        simp [results, Tryz.results15, go_sem]
  · have hR : lacksR s.xs k = ([], (readR s.xs k).2) := by rw [lacksR, if_neg h0]
    rw [hR]
    have Hen := hid (errV_ne h0)
    generalize readR s.xs k = R at *
    obtain ⟨⟨x0, x1, x2, x3, x4⟩, en⟩ := R
    simp only [E.val] at HRd Hen ⊢
    rw [Hen.out] at HRd
    clear h0 hR hs
    go_enter Tryz.func15, Tryz.ntmps15
    go_wp2_with fail
    refine HRd.out.mono ?_
    rintro e w1 ⟨rfl, hb1⟩
    have Hb1 := hid hb1
    have hz1 := hb1.size
    clear hb1 HRd
    go_wp2_with fail
    refine bodyPost_ret (v := .tuple #[.slice none 0 0, .iface 60 (.int .i64 en)]) ?_ rfl ⟨⟨none, 0, []⟩, by rw [Hen.out]; rfl, rfl, IntsAt.bare _ _ _, Hb1.out.alloc hz1 _⟩
    simp [results, Tryz.results15, go_sem]

/-- what is written -/
def writeL (l : List (SlV E)) (k : Int) : List (List E) := if (readR l k).2 = 0 then l.map (fun c => (addC c.xs (readR l k).1).1) else []

end Go.Proofs.YtmgiecoeeidgoaaGreatDoor
