/-
  CONTRACTS of repair.Read, Lacks and Write, at any caches. CONDITIONS: none.
-/
import Derived.Test.YtdocdmpfokdjkaaRepLaw
import Derived.Test.YtdocdmpfokdjkaaBoxR
import Derived.Test.YtdocdmpfokdjkaaRowE
import Derived.Test.YtdocdmpfokdjkaaIKit
import Derived.Test.YtdocdmpfokdjkaaCAll
import Derived.Deep.RegionLaw
import Derived.Deep.CutBlock
import Derived.Deep.DeepCutAuto
namespace Go.Proofs.Ytdocdmpfokdjkaa
open Go.RowKit
open Go.ChangeShapes Go.WideShapes Go.ChangeAt

set_option maxHeartbeats 8000000 in
set_option maxRecDepth 100000 in
theorem read_any (s : SlV (SlV E)) (k : Int) (w : World) (hs : CachesAt w s) :
    Calls Try.prog 22 #[.slice s.A s.xs.length s.c, .int .i64 k] w fun e w' => e = .returned (.tuple #[(readR s.xs k).1.val, errV (readR s.xs k).2]) ∧ Below w.heap.size w w' := by
  obtain ⟨r, hr⟩ : ∃ r, readR s.xs k = r := ⟨_, rfl⟩
  rw [hr]
  unfold readR at hr
  by_cases hc : chkTK s.xs k = 0
  · rw [if_pos hc] at hr
    obtain ⟨⟨h1, h6⟩, hch, hk⟩ := chkTK_ok hc
    have Hc := hid hc
    have Hk := hid hk
    have Hch := hid hch
    have Hr := hid hr
    clear hc hk hch hr
    go_enter Try.func22, Try.ntmps22
    go_wp2_with fail
    refine (tkey_any s k _ (hs.stays (by (repeat (first | with_reducible exact Below.refl _ _ | with_reducible assumption | (with_reducible refine Below.drew ?_) | (with_reducible refine Below.manyDrew ?_ _) | ((with_reducible refine Below.alloc ?_ ?_ _); rotate_left; (focus (first | omega | (dsimp only; omega) | (simp; done) | (simp; omega)))) | ((with_reducible refine Below.setCell ?_ ?_ _); rotate_left; (focus (first | omega | (dsimp only; omega) | (simp; done) | (simp; omega)))) | ((with_reducible refine Below.step ?_ (by assumption) ?_); rotate_left; (focus (first | omega | (dsimp only; omega) | (simp; done) | (simp; omega))))))))).mono ?_; rintro e w1 ⟨rfl, hb1⟩; obtain ⟨hc1, hf1⟩ := bcell hb1; have hz1 := hb1.size; (try simp only [World.size_alloc] at hz1); (try simp only [World.size_setCell] at hz1)
    rw [Hc.out, show errV 0 = .nilIface from rfl]
    have hl1 : w.heap.size < w1.heap.size := by omega
    go_wp2_with fail
    have hb1x : Below w.heap.size w w1 := by (repeat (first | with_reducible exact Below.refl _ _ | with_reducible assumption | (with_reducible refine Below.drew ?_) | (with_reducible refine Below.manyDrew ?_ _) | ((with_reducible refine Below.alloc ?_ ?_ _); rotate_left; (focus (first | omega | (dsimp only; omega) | (simp; done) | (simp; omega)))) | ((with_reducible refine Below.setCell ?_ ?_ _); rotate_left; (focus (first | omega | (dsimp only; omega) | (simp; done) | (simp; omega)))) | ((with_reducible refine Below.step ?_ (by assumption) ?_); rotate_left; (focus (first | omega | (dsimp only; omega) | (simp; done) | (simp; omega))))))
    go_loopw [8, 24] (fun f i wr => ∃ (j : Nat) (fb : Bool) (o : E), j ≤ s.xs.length ∧ f = .bool fb ∧ i = .int .i64 j ∧ (fb = true → 1 ≤ j) ∧ readG k fb o (s.xs.drop j) = r ∧ Blk wr w1.heap.size 47 #[.int .i64 o.key, .int .i64 o.ver, .int .i64 o.asof, .bool o.gone, .string o.text] ∧ Below w1.heap.size w1 wr) (fun _ i _ => s.xs.length - (intOf i).toNat)
    case atStart => exact ⟨0, false, E.zero, Nat.zero_le _, rfl, rfl, by decide, Hr.out, Blk.new_at (by simp), by (repeat (first | with_reducible exact Below.refl _ _ | with_reducible assumption | (with_reducible refine Below.drew ?_) | (with_reducible refine Below.manyDrew ?_ _) | ((with_reducible refine Below.alloc ?_ ?_ _); rotate_left; (focus (first | omega | (dsimp only; omega) | (simp; done) | (simp; omega)))) | ((with_reducible refine Below.setCell ?_ ?_ _); rotate_left; (focus (first | omega | (dsimp only; omega) | (simp; done) | (simp; omega)))) | ((with_reducible refine Below.step ?_ (by assumption) ?_); rotate_left; (focus (first | omega | (dsimp only; omega) | (simp; done) | (simp; omega))))))⟩
    case round =>
      obtain ⟨j, fb, o, hj, rfl, rfl, hf1, hkr, hB, hbr⟩ := hrel
      have hz0 := hbr.size
      have hlo := hB.lt
      have hbw : Below w.heap.size w wr := Below.step hb1x hbr (by omega)
      by_cases hlt : j < s.xs.length
      · obtain ⟨b, off, hA, hb, hcells⟩ := hs.row (by omega)
        have hcell := hcells j hlt
        have hin := (hs.each j hlt).stays hbw
        rw [← hbw.cell (p := ⟨b, off + j, none⟩) hb] at hcell
        have hd : s.xs.drop j = s.xs[j] :: s.xs.drop (j + 1) := List.drop_eq_getElem_cons hlt
        rw [hd, readG] at hkr
        obtain ⟨hn, _, hS, hK⟩ := chkC_ok (Hch.out _ (List.getElem_mem hlt))
        generalize s.xs[j] = c at *
        have HS := hid hS
        have HK := hid hK
        rcases hh : hasK k c.xs with _ | _
        · rw [if_neg (by simp [hh])] at hkr
          have Hkr := hid hkr
          have Hh := hid hh
          have Hf1 := hid hf1
          rw [hA]
          clear hA hcells hd hkr hS hK hh hf1
          go_wp2_with fail
          refine (place_any k c _ hin HS.out HK.out (keyB_true.1 Hk.out) hn).mono ?_; rintro e w2 ⟨rfl, hb2⟩; obtain ⟨hc2, hf2⟩ := bcell hb2; have hz2 := hb2.size; (try simp only [World.size_alloc] at hz2); (try simp only [World.size_setCell] at hz2)
          rw [Hh.out]
          go_wp2_with fail
          go_roundw
          case rel => exact ⟨j + 1, fb, o, by omega, rfl, by go_num, (fun h => by omega), Hkr.out, hB.belowS hb2, by (repeat (first | with_reducible exact Below.refl _ _ | with_reducible assumption | (with_reducible refine Below.drew ?_) | (with_reducible refine Below.manyDrew ?_ _) | ((with_reducible refine Below.alloc ?_ ?_ _); rotate_left; (focus (first | omega | (dsimp only; omega) | (simp; done) | (simp; omega)))) | ((with_reducible refine Below.setCell ?_ ?_ _); rotate_left; (focus (first | omega | (dsimp only; omega) | (simp; done) | (simp; omega)))) | ((with_reducible refine Below.step ?_ (by assumption) ?_); rotate_left; (focus (first | omega | (dsimp only; omega) | (simp; done) | (simp; omega))))))⟩
          case measure => simp [intOf]; omega
        · have hp : plc k c.xs < c.xs.length := by
            unfold hasK at hh
            simp at hh
            exact hh.1
          obtain ⟨g, off2, hA2, hg, hcells2⟩ := hin.get (by omega)
          have hE := hcells2 _ hp
          have hcl := hin.len
          unfold maxLen at hcl
          rcases fb with _ | _
          · rw [if_pos hh, if_neg (by decide)] at hkr
            generalize c.xs.getD (plc k c.xs) E.zero = x at *
            have Hkr := hid hkr
            have Hh := hid hh
            have HA2 := hid hA2
            rw [hA]
            clear hA hcells hd hkr hS hK hh hcells2 hA2 hf1
            go_wp2_with fail
            refine (place_any k c _ hin HS.out HK.out (keyB_true.1 Hk.out) hn).mono ?_; rintro e w2 ⟨rfl, hb2⟩; obtain ⟨hc2, hf2⟩ := bcell hb2; have hz2 := hb2.size; (try simp only [World.size_alloc] at hz2); (try simp only [World.size_setCell] at hz2)
            obtain ⟨k0, k1, k2, k3, k4⟩ := hE
            have hx0 : wr.cell? ⟨w1.heap.size, 0, none⟩ = some (.int .i64 o.key) := hB.cell 0
            have hx1 : wr.cell? ⟨w1.heap.size, 1, none⟩ = some (.int .i64 o.ver) := hB.cell 1
            have hx2 : wr.cell? ⟨w1.heap.size, 2, none⟩ = some (.int .i64 o.asof) := hB.cell 2
            have hx3 : wr.cell? ⟨w1.heap.size, 3, none⟩ = some (.bool o.gone) := hB.cell 3
            have hx4 : wr.cell? ⟨w1.heap.size, 4, none⟩ = some (.string o.text) := hB.cell 4
            have f0 := hB.frozen 0
            have f1 := hB.frozen 1
            have f2 := hB.frozen 2
            have f3 := hB.frozen 3
            have f4 := hB.frozen 4
            rw [Hh.out, HA2.out]
            rw [HA2.out] at hcell
            obtain ⟨xk, xv, xa, xg, xt⟩ := x
            simp only at k0 k1 k2 k3 k4
            generalize plc k c.xs = q at *
            have hB2 := hB.belowS hb2
            go_wp2_with fail
            go_roundw
            case rel => exact ⟨j + 1, true, ⟨xk, xv, xa, xg, xt⟩, by omega, rfl, by go_num, (fun _ => by omega), Hkr.out, Blk.put5 hB2 _ _ _ _ _, by (repeat (first | with_reducible exact Below.refl _ _ | with_reducible assumption | (with_reducible refine Below.drew ?_) | (with_reducible refine Below.manyDrew ?_ _) | ((with_reducible refine Below.alloc ?_ ?_ _); rotate_left; (focus (first | omega | (dsimp only; omega) | (simp; done) | (simp; omega)))) | ((with_reducible refine Below.setCell ?_ ?_ _); rotate_left; (focus (first | omega | (dsimp only; omega) | (simp; done) | (simp; omega)))) | ((with_reducible refine Below.step ?_ (by assumption) ?_); rotate_left; (focus (first | omega | (dsimp only; omega) | (simp; done) | (simp; omega))))))⟩
            case measure => simp [intOf]; omega
          · rw [if_pos hh, if_pos rfl] at hkr
            generalize c.xs.getD (plc k c.xs) E.zero = x at *
            obtain ⟨xk, xv, xa, xg, xt⟩ := x
            obtain ⟨ok, ov, oa, og, ot⟩ := o
            have hJ := fun W => joined_any ok ov oa og ot xk xv xa xg xt W
            generalize joined ⟨ok, ov, oa, og, ot⟩ ⟨xk, xv, xa, xg, xt⟩ = R at *
            obtain ⟨⟨r0, r1, r2, r3, r4⟩, en⟩ := R
            simp only [E.val] at hJ hkr
            obtain ⟨ev, hev⟩ : ∃ ev, errV en = ev := ⟨_, rfl⟩
            rw [hev] at hJ
            have HJ := hid hJ
            have Hev := hid hev
            have Hkr := hid hkr
            have Hh := hid hh
            have HA2 := hid hA2
            have HE := hid (show ∀ W, Below wr.heap.size wr W → EAt W g (off2 + plc k c.xs * 5) ⟨xk, xv, xa, xg, xt⟩ from fun W hW => hE.stays hW hg)
            have HB := hid (show ∀ W, Below wr.heap.size wr W → Blk W w1.heap.size 47 #[.int .i64 ok, .int .i64 ov, .int .i64 oa, .bool og, .string ot] from fun W hW => hB.belowS hW)
            have Hbr := hid hbr
            have Hbw := hid hbw
            rw [hA]
            clear hA hcells hd hkr hS hK hh hcells2 hA2 hf1 hJ hev hE hB hbr hbw
            go_wp2_with fail
            refine (place_any k c _ hin HS.out HK.out (keyB_true.1 Hk.out) hn).mono ?_
            rintro e w2 ⟨rfl, hb2⟩
            obtain ⟨k0, k1, k2, k3, k4⟩ := HE.out _ hb2
            have hB2 := HB.out _ hb2
            have d0 : w2.cell? ⟨w1.heap.size, 0, none⟩ = some (.int .i64 ok) := hB2.cell 0
            have d1 : w2.cell? ⟨w1.heap.size, 1, none⟩ = some (.int .i64 ov) := hB2.cell 1
            have d2 : w2.cell? ⟨w1.heap.size, 2, none⟩ = some (.int .i64 oa) := hB2.cell 2
            have d3 : w2.cell? ⟨w1.heap.size, 3, none⟩ = some (.bool og) := hB2.cell 3
            have d4 : w2.cell? ⟨w1.heap.size, 4, none⟩ = some (.string ot) := hB2.cell 4
            have hz2 := hb2.size
            have hl2 : w1.heap.size < w2.heap.size := by omega
            have hg2 : g < w2.heap.size := by omega
            have hp0 : (0 : Int) ≤ (plc k c.xs : Int) := by omega
            have hpi : (plc k c.xs : Int) < (c.xs.length : Int) := by omega
            have Hb2 := hid hb2
            rw [Hh.out, HA2.out]
            simp only at k0 k1 k2 k3 k4
            generalize plc k c.xs = q at *
            clear hB2 hb2 hcell hin
            go_upto_region 13 with fail
            go_cut [13, 14] (fun a er wx => er = ev ∧ BoxR w2 #[.int .i64 r0, .int .i64 r1, .int .i64 r2, .bool r3, .string r4] a wx)
            case first =>
              go_region_law (first | (go_simp; go_at_call 45; refine (HJ.out _).mono ?_; rintro e wj ⟨rfl, hbj⟩; obtain ⟨hcj, hfj⟩ := bcell hbj; have hzj := hbj.size; (try simp only [World.size_alloc] at hzj)))
              all_goals
                go_wp2_with fail
                go_meet
                refine ⟨rfl, ?_⟩
                have hb2j : Below w2.heap.size w2 wj := by (repeat (first | with_reducible exact Below.refl _ _ | with_reducible assumption | (with_reducible refine Below.drew ?_) | (with_reducible refine Below.manyDrew ?_ _) | ((with_reducible refine Below.alloc ?_ ?_ _); rotate_left; (focus (first | omega | (dsimp only; omega) | (simp; done) | (simp; omega)))) | ((with_reducible refine Below.setCell ?_ ?_ _); rotate_left; (focus (first | omega | (dsimp only; omega) | (simp; done) | (simp; omega)))) | ((with_reducible refine Below.step ?_ (by assumption) ?_); rotate_left; (focus (first | omega | (dsimp only; omega) | (simp; done) | (simp; omega))))))
                first
                  | with_reducible exact BoxR.mk2 (g := w2.heap.size) (Blk.newA hbj) (Nat.le_refl _) hb2j
                  | with_reducible exact BoxR.mk2 (g := w2.heap.size) (Blk.newD hbj) (Nat.le_refl _) hb2j
                  | with_reducible exact BoxR.mk1 hb2j rfl
            case rest =>
            obtain ⟨rfl, g9, rfl, hg9, hB9, hb9⟩ := hcut
            obtain ⟨w3, rfl⟩ : ∃ w3 : World, w3 = wc := ⟨_, rfl⟩
            have hb3 : Below wr.heap.size wr w3 := Below.step Hb2.out hb9 hz2
            have hB3 := HB.out _ hb3
            have Hb3 := hid hb3
            have Hbw3 := hid (Below.step Hbr.out hb3 hz0)
            have hz3 := hb3.size
            have hl3 : w1.heap.size < w3.heap.size := by omega
            by_cases hen : en = 0
            · subst hen
              have Hkr2 := hid ((if_pos rfl).symm.trans Hkr.out)
              have e0 : w3.cell? ⟨g9, 0, none⟩ = some (.int .i64 r0) := hB9.cell 0
              have e1 : w3.cell? ⟨g9, 1, none⟩ = some (.int .i64 r1) := hB9.cell 1
              have e2 : w3.cell? ⟨g9, 2, none⟩ = some (.int .i64 r2) := hB9.cell 2
              have e3 : w3.cell? ⟨g9, 3, none⟩ = some (.bool r3) := hB9.cell 3
              have e4 : w3.cell? ⟨g9, 4, none⟩ = some (.string r4) := hB9.cell 4
              have x0 : w3.cell? ⟨w1.heap.size, 0, none⟩ = some (.int .i64 ok) := hB3.cell 0
              have x1 : w3.cell? ⟨w1.heap.size, 1, none⟩ = some (.int .i64 ov) := hB3.cell 1
              have x2 : w3.cell? ⟨w1.heap.size, 2, none⟩ = some (.int .i64 oa) := hB3.cell 2
              have x3 : w3.cell? ⟨w1.heap.size, 3, none⟩ = some (.bool og) := hB3.cell 3
              have x4 : w3.cell? ⟨w1.heap.size, 4, none⟩ = some (.string ot) := hB3.cell 4
              have f0 := hB3.frozen 0
              have f1 := hB3.frozen 1
              have f2 := hB3.frozen 2
              have f3 := hB3.frozen 3
              have f4 := hB3.frozen 4
              have HB3 := hid hB3
              rw [← Hev.out, show errV 0 = .nilIface from rfl]
              clear hB9 hb9 hB3 hb3 d0 d1 d2 d3 d4 k0 k1 k2 k3 k4 Hkr
              go_wp2_with fail
              go_roundw
              case rel => exact ⟨j + 1, true, ⟨r0, r1, r2, r3, r4⟩, by omega, rfl, by go_num, (fun _ => by omega), Hkr2.out, Blk.put5 HB3.out _ _ _ _ _, by have := Hbw3.out; (repeat (first | with_reducible exact Below.refl _ _ | with_reducible assumption | (with_reducible refine Below.drew ?_) | (with_reducible refine Below.manyDrew ?_ _) | ((with_reducible refine Below.alloc ?_ ?_ _); rotate_left; (focus (first | omega | (dsimp only; omega) | (simp; done) | (simp; omega)))) | ((with_reducible refine Below.setCell ?_ ?_ _); rotate_left; (focus (first | omega | (dsimp only; omega) | (simp; done) | (simp; omega)))) | ((with_reducible refine Below.step ?_ (by assumption) ?_); rotate_left; (focus (first | omega | (dsimp only; omega) | (simp; done) | (simp; omega))))))⟩
              case measure => simp [intOf]; omega
            · have hrr : r = (E.zero, en) := by rw [← Hkr.out, if_neg hen]
              have hee := Hev.out.symm.trans (errV_ne hen)
              have hBx := (Blk.new w 47 #[.int .i64 0, .int .i64 0, .int .i64 0, .bool false, .string ⟨#[]⟩]).belowS hb1
              have HBy := hid (hBx.below Hbw3.out (by omega))
              have by_ := HBy.out
              have y0 : w3.cell? ⟨w.heap.size, 0, none⟩ = some (.int .i64 0) := by_.cell 0
              have y1 : w3.cell? ⟨w.heap.size, 1, none⟩ = some (.int .i64 0) := by_.cell 1
              have y2 : w3.cell? ⟨w.heap.size, 2, none⟩ = some (.int .i64 0) := by_.cell 2
              have y3 : w3.cell? ⟨w.heap.size, 3, none⟩ = some (.bool false) := by_.cell 3
              have y4 : w3.cell? ⟨w.heap.size, 4, none⟩ = some (.string ⟨#[]⟩) := by_.cell 4
              have f0 := by_.frozen 0
              have f1 := by_.frozen 1
              have f2 := by_.frozen 2
              have f3 := by_.frozen 3
              have f4 := by_.frozen 4
              have Hrr := hid hrr
              have Hen := hid (errV_ne hen)
              subst hee
              clear hB9 hb9 hB3 hb3 d0 d1 d2 d3 d4 k0 k1 k2 k3 k4 Hkr hrr hen hBx by_
              go_wp2_with fail
              refine bodyPost_ret (v := .tuple #[E.zero.val, errV en]) ?_ rfl ⟨by rw [Hrr.out], ?_⟩
              · rw [Hen.out]
                exact results_box Try.results22 rfl (Blk.put5 HBy.out _ _ _ _ _) Try.underlying47 rfl (by kernel_rfl)
              · have := Hbw3.out; (repeat (first | with_reducible exact Below.refl _ _ | with_reducible assumption | (with_reducible refine Below.drew ?_) | (with_reducible refine Below.manyDrew ?_ _) | ((with_reducible refine Below.alloc ?_ ?_ _); rotate_left; (focus (first | omega | (dsimp only; omega) | (simp; done) | (simp; omega)))) | ((with_reducible refine Below.setCell ?_ ?_ _); rotate_left; (focus (first | omega | (dsimp only; omega) | (simp; done) | (simp; omega)))) | ((with_reducible refine Below.step ?_ (by assumption) ?_); rotate_left; (focus (first | omega | (dsimp only; omega) | (simp; done) | (simp; omega))))))
      · obtain rfl : j = s.xs.length := by omega
        rw [List.drop_length, readG] at hkr
        obtain ⟨hcr, hfr⟩ := bcell hbr
        have hBx := (Blk.new w 47 #[.int .i64 0, .int .i64 0, .int .i64 0, .bool false, .string ⟨#[]⟩]).belowS hb1
        have hBy := hBx.below hbr (by omega)
        rcases fb with _ | _
        · rw [if_neg (by decide)] at hkr
          subst hkr
          go_wp2_with fail
          refine bodyPost_ret (v := .tuple #[E.zero.val, errV 5]) ?_ rfl ⟨rfl, ?_⟩
          · exact results_box Try.results22 rfl (Blk.put5 hBy _ _ _ _ _) Try.underlying47 rfl (by kernel_rfl)
          · (repeat (first | with_reducible exact Below.refl _ _ | with_reducible assumption | (with_reducible refine Below.drew ?_) | (with_reducible refine Below.manyDrew ?_ _) | ((with_reducible refine Below.alloc ?_ ?_ _); rotate_left; (focus (first | omega | (dsimp only; omega) | (simp; done) | (simp; omega)))) | ((with_reducible refine Below.setCell ?_ ?_ _); rotate_left; (focus (first | omega | (dsimp only; omega) | (simp; done) | (simp; omega)))) | ((with_reducible refine Below.step ?_ (by assumption) ?_); rotate_left; (focus (first | omega | (dsimp only; omega) | (simp; done) | (simp; omega))))))
        · rw [if_pos rfl] at hkr
          subst hkr
          have hx0 : wr.cell? ⟨w1.heap.size, 0, none⟩ = some (.int .i64 o.key) := hB.cell 0
          have hx1 : wr.cell? ⟨w1.heap.size, 1, none⟩ = some (.int .i64 o.ver) := hB.cell 1
          have hx2 : wr.cell? ⟨w1.heap.size, 2, none⟩ = some (.int .i64 o.asof) := hB.cell 2
          have hx3 : wr.cell? ⟨w1.heap.size, 3, none⟩ = some (.bool o.gone) := hB.cell 3
          have hx4 : wr.cell? ⟨w1.heap.size, 4, none⟩ = some (.string o.text) := hB.cell 4
          obtain ⟨ok, ov, oa, og, ot⟩ := o
          simp only at hx0 hx1 hx2 hx3 hx4
          go_wp2_with fail
          refine bodyPost_ret (v := .tuple #[E.val ⟨ok, ov, oa, og, ot⟩, errV 0]) ?_ rfl ⟨rfl, ?_⟩
          · exact results_box Try.results22 rfl (Blk.put5 hBy _ _ _ _ _) Try.underlying47 rfl (by kernel_rfl)
          · (repeat (first | with_reducible exact Below.refl _ _ | with_reducible assumption | (with_reducible refine Below.drew ?_) | (with_reducible refine Below.manyDrew ?_ _) | ((with_reducible refine Below.alloc ?_ ?_ _); rotate_left; (focus (first | omega | (dsimp only; omega) | (simp; done) | (simp; omega)))) | ((with_reducible refine Below.setCell ?_ ?_ _); rotate_left; (focus (first | omega | (dsimp only; omega) | (simp; done) | (simp; omega)))) | ((with_reducible refine Below.step ?_ (by assumption) ?_); rotate_left; (focus (first | omega | (dsimp only; omega) | (simp; done) | (simp; omega))))))
  · rw [if_neg hc] at hr
    subst hr
    have He := hid (errV_ne hc)
    clear hc
    go_enter Try.func22, Try.ntmps22
    go_wp2_with fail
    refine (tkey_any s k _ (hs.stays (by (repeat (first | with_reducible exact Below.refl _ _ | with_reducible assumption | (with_reducible refine Below.drew ?_) | (with_reducible refine Below.manyDrew ?_ _) | ((with_reducible refine Below.alloc ?_ ?_ _); rotate_left; (focus (first | omega | (dsimp only; omega) | (simp; done) | (simp; omega)))) | ((with_reducible refine Below.setCell ?_ ?_ _); rotate_left; (focus (first | omega | (dsimp only; omega) | (simp; done) | (simp; omega)))) | ((with_reducible refine Below.step ?_ (by assumption) ?_); rotate_left; (focus (first | omega | (dsimp only; omega) | (simp; done) | (simp; omega))))))))).mono ?_; rintro e w1 ⟨rfl, hb1⟩; obtain ⟨hc1, hf1⟩ := bcell hb1; have hz1 := hb1.size; (try simp only [World.size_alloc] at hz1); (try simp only [World.size_setCell] at hz1)
    rw [He.out]
    have hl1 : w.heap.size < w1.heap.size := by omega
    go_wp2_with fail
    refine bodyPost_ret (v := .tuple #[E.zero.val, errV (chkTK s.xs k)]) ?_ rfl ⟨rfl, ?_⟩
    · rw [He.out]
      exact results_box Try.results22 rfl (Blk.put5 ((Blk.new_at (by simp)).belowS hb1) _ _ _ _ _) Try.underlying47 rfl (by kernel_rfl)
    · (repeat (first | with_reducible exact Below.refl _ _ | with_reducible assumption | (with_reducible refine Below.drew ?_) | (with_reducible refine Below.manyDrew ?_ _) | ((with_reducible refine Below.alloc ?_ ?_ _); rotate_left; (focus (first | omega | (dsimp only; omega) | (simp; done) | (simp; omega)))) | ((with_reducible refine Below.setCell ?_ ?_ _); rotate_left; (focus (first | omega | (dsimp only; omega) | (simp; done) | (simp; omega)))) | ((with_reducible refine Below.step ?_ (by assumption) ?_); rotate_left; (focus (first | omega | (dsimp only; omega) | (simp; done) | (simp; omega))))))
end Go.Proofs.Ytdocdmpfokdjkaa
