/-
  CONTRACTS for merelaw3.LogKeeps: the reference store's Copy; alike. CONDITIONS: the library's variables read as they are laid (Tv).
-/
import Derived.Test.YtljkclebcoanaaaGreatDoorLogX
import Derived.Test.YtljkclebcoanaaaGreatDoorRStore
import Derived.Deep.RegionHeld3
import Derived.Deep.RegionLaw
import Derived.StillTailTactics
import Derived.BigQuiet
namespace Go.Proofs.YtljkclebcoanaaaGreatDoor
open Go.RowKit
open Go.ChangeShapes Go.WideShapes Go.ChangeAt

set_option maxHeartbeats 4000000 in
set_option maxRecDepth 100000 in
theorem rcopy_any {base b : Nat} {v : Value} {D : List E} (w : World) (h : RStoreO base w b v D) :
    Calls Tryz.prog 16 #[.pointer (some ⟨b, 0, none⟩)] w fun e w' => ∃ v', e = .returned (.pointer (some ⟨w.heap.size, 0, none⟩)) ∧ RStoreO w.heap.size w' w.heap.size v' D ∧ Below w.heap.size w w' := by
  obtain ⟨r, rfl, hrx, hrA⟩ := h.form
  have hb0 : w.cell? ⟨b, 0, none⟩ = some (.slice r.A r.xs.length r.c) := h.blk.cell 0
  have hbl := h.lt
  have hgood := h.good
  have hsh := h.short
  subst hrx
  clear h
  obtain ⟨w1, hw1⟩ : ∃ w1 : World, w1 = w.alloc (.cells #[.slice none 0 0] 43) := ⟨_, rfl⟩
  have hB1 : Blk w1 w.heap.size 43 #[.slice none 0 0] := by rw [hw1]; exact Blk.new _ _ _
  have hbw : Below w.heap.size w w1 := by rw [hw1]; exact (Below.refl _ _).alloc (Nat.le_refl _) _
  have hs1 : w1.heap.size = w.heap.size + 1 := by rw [hw1]; simp
  have hlt1 : w.heap.size < w1.heap.size := by omega
  have hbl1 : b < w1.heap.size := by omega
  have Hw1 := hid hw1
  clear hw1
  go_enter Tryz.func16, Tryz.ntmps16
  go_wp2_with fail
  rw [← Hw1.out]
  have c0 : w1.cell? ⟨w.heap.size, 0, none⟩ = some (.slice none 0 0) := hB1.cell 0
  have f0 := hB1.frozen 0
  have cb : w1.cell? ⟨b, 0, none⟩ = some (.slice r.A r.xs.length r.c) := (hbw.cell (p := ⟨b, 0, none⟩) hbl).trans hb0
  have HrA := hid (fun W (hW : Below w1.heap.size w1 W) => show EsAt W r from (hrA.stays hbw).stays hW)
  have Hbw := hid hbw
  have HB1 := hid hB1
  have Hfin : Hid (∀ w8 v8, Below w1.heap.size w1 w8 → Ow E.cells 5 w1.heap.size 34 w8 v8 r.xs → Hid (RStoreO w.heap.size (w8.setCell ⟨w.heap.size, 0, none⟩ v8) w.heap.size v8 r.xs ∧ Below w.heap.size w (w8.setCell ⟨w.heap.size, 0, none⟩ v8))) := fun w8 v8 hF8 h8 => by
    have hB8 : Blk w8 w.heap.size 43 #[.slice none 0 0] := HB1.out.belowS hF8
    have hlt8 := hB8.lt
    have hfs : ∀ g, foot v8 = some g → g ≠ w.heap.size := fun g hg => by have := (h8.lt hg).1; omega
    have hF : Fr (fun i => i = w.heap.size) w8 (w8.setCell ⟨w.heap.size, 0, none⟩ v8) := (Fr.refl _ _).own1 _ _
    exact ⟨⟨hB8.put 0 v8, (h8.fr hF (fun g hg => hfs g hg)).mono (by omega), fun h => hfs _ h rfl, Nat.le_refl _, hgood, hsh⟩, (Hbw.out.trans (hF8.mono (by omega))).setCell (p := ⟨w.heap.size, 0, none⟩) (Nat.le_refl _) _⟩
  clear hs1 hbw hrA hb0 hB1
  go_region_law (first | (refine appEss _ w1.heap.size _ [] r ?_ (Ow.nil _ _ _ _ _) rfl _ _ rfl rfl rfl ?_ ?_ ?_; (focus exact HrA.out _ (by (repeat (first | with_reducible exact Below.refl _ _ | with_reducible assumption | (with_reducible refine Below.drew ?_) | (with_reducible refine Below.manyDrew ?_ _) | ((with_reducible refine Below.alloc ?_ ?_ _); rotate_left; (focus (first | omega | (dsimp only; omega) | (simp; done) | (simp; omega)))) | ((with_reducible refine Below.setCell ?_ ?_ _); rotate_left; (focus (first | omega | (dsimp only; omega) | (simp; done) | (simp; omega)))) | ((with_reducible refine Below.step ?_ (by assumption) ?_); rotate_left; (focus (first | omega | (dsimp only; omega) | (simp; done) | (simp; omega)))))))); (focus (simp; omega)); (focus (first | exact Nat.le_refl _ | (simp; omega))); intro v8 w8 h8 f8 o8; rw [List.nil_append] at h8; obtain ⟨A8, cc8, rfl, -, -, -⟩ := h8.form; have hF8 : Below w1.heap.size w1 w8 := (show Below w1.heap.size w1 _ by (repeat (first | with_reducible exact Below.refl _ _ | with_reducible assumption | (with_reducible refine Below.drew ?_) | (with_reducible refine Below.manyDrew ?_ _) | ((with_reducible refine Below.alloc ?_ ?_ _); rotate_left; (focus (first | omega | (dsimp only; omega) | (simp; done) | (simp; omega)))) | ((with_reducible refine Below.setCell ?_ ?_ _); rotate_left; (focus (first | omega | (dsimp only; omega) | (simp; done) | (simp; omega)))) | ((with_reducible refine Below.step ?_ (by assumption) ?_); rotate_left; (focus (first | omega | (dsimp only; omega) | (simp; done) | (simp; omega))))))).trans (f8.below0 (by first | exact Nat.le_refl _ | (simp; omega)) (fun i hi => by cases hi)); have hc8 : w8.cell? ⟨w.heap.size, 0, none⟩ = some (.slice none 0 0) := (hF8.cell (p := ⟨w.heap.size, 0, none⟩) hlt1).trans c0; have hz8 : w8.frozen? ⟨w.heap.size, 0, none⟩ = false := (hF8.frozen (p := ⟨w.heap.size, 0, none⟩) hlt1).trans f0; have Hn := Hfin.out w8 _ hF8 h8))
  all_goals
    go_wp2_with fail
    go_ret
    exact ⟨_, rfl, Hn.out⟩

set_option maxHeartbeats 4000000 in
set_option maxRecDepth 100000 in
theorem alike_any {base base2 l b : Nat} {G : LG} {v : Value} (w : World) (hX : LogX base w l G) (hR : RStoreO base2 w b v G.D) (hT : Tv w) :
    Calls Tryz.prog 19 #[.pointer (some ⟨l, 0, none⟩), .pointer (some ⟨b, 0, none⟩)] w fun e w' => e = .returned (.bool true) ∧ Below w.heap.size w w' := by
  have hbl := hR.lt
  have hb0 : w.cell? ⟨b, 0, none⟩ = some v := hR.blk.cell 0
  obtain ⟨r, rfl, hrx, -⟩ := hR.form
  have hlen : r.xs.length = G.D.length := by rw [hrx]
  have HX := hid (fun W (hW : Below w.heap.size w W) => hX.belowS hW)
  have HR := hid (fun W (hW : Below w.heap.size w W) => hR.belowS hW)
  have HT := hid (fun W (hW : Below w.heap.size w W) => (hT.belowS hW).gl)
  have HS := hid (fun n => xseq (hX.belowS (Below.manyDrew (Below.refl _ w) n)))
  have hDl := hX.1.many
  have HD := hid hDl
  clear hX hR hT
  go_enter Tryz.func19, Tryz.ntmps19
  go_wp2_with fail
  rw [hlen] at hb0
  clear hlen
  go_quiet ((go_at_call 12; exact Calls.quiet_of_same ((HS.out _).mono (by rintro e w' ⟨rfl, rfl⟩; exact ⟨rfl, rfl⟩))))
  have Hq := hid (show Below w.heap.size w (w.drewN nq) from Below.manyDrew (Below.refl _ _) nq)
  clear HS hb0
  generalize w.drewN nq = w1 at *
  go_wp2_with fail
  go_loopw [5] (fun k wr => ∃ i : Int, -1 ≤ i ∧ i ≤ 9 ∧ k = .int .i64 i ∧ Below w.heap.size w wr) (fun k _ => match k with | .int _ i => (9 - i).toNat | _ => 0)
  case atStart => exact ⟨-1, by omega, by omega, rfl, Hq.out⟩
  case round =>
    obtain ⟨i, hi0, hi9, rfl, hbr⟩ := hrel
    have Hbr := hid hbr
    have hzr := hbr.size
    by_cases h8 : i ≤ 8
    · have HRd := hid (xread (HX.out wr hbr) i)
      have Hk := hid (fun W => rkey_any i W)
      cases hk : keyB i with
      | false =>
        have hrt : ratS G.D i G.D.length = (E.zero, 1) := by rw [ratS, if_neg (fun h => by rw [hk] at h; cases h.1)]
        rw [hrt] at HRd
        rw [hk] at Hk
        have HE := hid (fun W (hW : Below w.heap.size w W) => error_any 1 1 W (HT.out W hW))
        rw [errV_ne (show (1 : Int) ≠ 0 by decide)] at HRd HE
        simp only [E.val, E.zero] at HRd
        clear hrt hk hbr
        go_wp2_with fail
        refine HRd.out.mono ?_
        rintro e w2 ⟨rfl, hb2⟩
        have Hb2 := hid (Below.step Hbr.out hb2 hzr)
        have hz2 := hb2.size
        clear hb2 HRd
        go_wp2_with (go_at_call 30; refine (Hk.out _).mono ?_; rintro e wk ⟨rfl, rfl⟩)
        refine (HE.out _ (by have h := Hb2.out; (repeat (first | with_reducible exact Below.refl _ _ | with_reducible assumption | (with_reducible refine Below.drew ?_) | (with_reducible refine Below.manyDrew ?_ _) | ((with_reducible refine Below.alloc ?_ ?_ _); rotate_left; (focus (first | omega | (dsimp only; omega) | (simp; done) | (simp; omega)))) | ((with_reducible refine Below.setCell ?_ ?_ _); rotate_left; (focus (first | omega | (dsimp only; omega) | (simp; done) | (simp; omega)))) | ((with_reducible refine Below.step ?_ (by assumption) ?_); rotate_left; (focus (first | omega | (dsimp only; omega) | (simp; done) | (simp; omega)))))))).mono ?_
        rintro e w3 ⟨rfl, hb3⟩
        have Hb3 := hid (Below.step (show Below w.heap.size w _ by have h := Hb2.out; (repeat (first | with_reducible exact Below.refl _ _ | with_reducible assumption | (with_reducible refine Below.drew ?_) | (with_reducible refine Below.manyDrew ?_ _) | ((with_reducible refine Below.alloc ?_ ?_ _); rotate_left; (focus (first | omega | (dsimp only; omega) | (simp; done) | (simp; omega)))) | ((with_reducible refine Below.setCell ?_ ?_ _); rotate_left; (focus (first | omega | (dsimp only; omega) | (simp; done) | (simp; omega)))) | ((with_reducible refine Below.step ?_ (by assumption) ?_); rotate_left; (focus (first | omega | (dsimp only; omega) | (simp; done) | (simp; omega))))))) hb3 (by rw [World.size_alloc]; omega))
        clear hb3 HE
        go_wp2_with fail
        go_roundw
        case rel => exact ⟨i + 1, by omega, by omega, by go_num, Hb3.out⟩
        case measure => simp; omega
      | true =>
        have hrt : ratS G.D i G.D.length = (entC i G.D.length (refC G.D i), 0) := by rw [ratS, if_pos ⟨hk, by omega, by omega⟩, Int.toNat_natCast, List.take_length]
        have HRf := hid (fun W (hW : Below w.heap.size w W) => rRead_any base2 b i _ G.D W (HR.out W hW))
        rw [hrt, errV_zero] at HRd
        rw [hk] at Hk
        generalize entC i G.D.length (refC G.D i) = c at *
        obtain ⟨c0, c1, c2, c3, c4⟩ := c
        simp only [E.val] at HRd HRf
        have heq := fun W => eqRunE c0 c1 c2 c3 c4 c0 c1 c2 c3 c4 W
        rw [eqbE_refl] at heq
        have Heq := hid heq
        clear hrt hk hbr heq
        go_wp2_with fail
        refine HRd.out.mono ?_
        rintro e w2 ⟨rfl, hb2⟩
        have Hb2 := hid (Below.step Hbr.out hb2 hzr)
        have hz2 := hb2.size
        clear hb2 HRd
        obtain ⟨wx, hwx⟩ : ∃ wx : World, wx = w2.alloc (.cells #[.int .i64 c0, .int .i64 c1, .int .i64 c2, .bool c3, .string c4] 34) := ⟨_, rfl⟩
        have hBx : Blk wx w2.heap.size 34 #[.int .i64 c0, .int .i64 c1, .int .i64 c2, .bool c3, .string c4] := by rw [hwx]; exact Blk.new _ _ _
        have hbx : Below w2.heap.size w2 wx := by rw [hwx]; exact (Below.refl _ _).alloc (Nat.le_refl _) _
        have Hbx := hid (Below.step Hb2.out hbx (by omega))
        have HBx := hid hBx
        have hlx := hBx.lt
        have Hwx := hid hwx
        clear hBx hbx hwx
        go_upto_region 12 with (go_at_call 30; refine (Hk.out _).mono ?_; rintro e wk ⟨rfl, rfl⟩)
        rw [← Hwx.out]
        have e0 : wx.cell? ⟨w2.heap.size, 0, none⟩ = some (.int .i64 c0) := HBx.out.cell 0
        have e1 : wx.cell? ⟨w2.heap.size, 1, none⟩ = some (.int .i64 c1) := HBx.out.cell 1
        have e2 : wx.cell? ⟨w2.heap.size, 2, none⟩ = some (.int .i64 c2) := HBx.out.cell 2
        have e3 : wx.cell? ⟨w2.heap.size, 3, none⟩ = some (.bool c3) := HBx.out.cell 3
        have e4 : wx.cell? ⟨w2.heap.size, 4, none⟩ = some (.string c4) := HBx.out.cell 4
        have heq := Heq.out
        have hbxx := Hbx.out
        have hzx := hbxx.size
        go_region_held3 (fun W => Below wx.heap.size wx W ∧ W.cell? ⟨w2.heap.size, 0, none⟩ = some (.int .i64 c0) ∧ W.cell? ⟨w2.heap.size, 1, none⟩ = some (.int .i64 c1) ∧ W.cell? ⟨w2.heap.size, 2, none⟩ = some (.int .i64 c2) ∧ W.cell? ⟨w2.heap.size, 3, none⟩ = some (.bool c3) ∧ W.cell? ⟨w2.heap.size, 4, none⟩ = some (.string c4)) (first | exact ⟨(Below.refl _ _).drew, e0, e1, e2, e3, e4⟩ | (go_split_ands; exact ⟨by assumption, by assumption, by assumption, by assumption, by assumption, by assumption⟩) | exact ⟨by assumption, by assumption, by assumption, by assumption, by assumption, by assumption⟩) (first | (go_at_call 31; go_split_ands; refine (HRf.out _ ?_).mono ?_; (refine Below.step hbxx ?_ hzx; assumption); rintro e wy ⟨rfl, hby⟩; have hyy := bstep ‹Below wx.heap.size wx _› hby; have y0 := (hyy.cell (p := ⟨w2.heap.size, 0, none⟩) hlx).trans e0; have y1 := (hyy.cell (p := ⟨w2.heap.size, 1, none⟩) hlx).trans e1; have y2 := (hyy.cell (p := ⟨w2.heap.size, 2, none⟩) hlx).trans e2; have y3 := (hyy.cell (p := ⟨w2.heap.size, 3, none⟩) hlx).trans e3; have y4 := (hyy.cell (p := ⟨w2.heap.size, 4, none⟩) hlx).trans e4))
        all_goals
          have Hyy := hid (Below.step hbxx ‹Below wx.heap.size wx _› hzx)
          go_wp2_with fail
          go_roundw
          case rel => exact ⟨i + 1, by omega, by omega, by go_num, Hyy.out⟩
          case measure => simp; omega
    · clear hbr
      go_wp2_with fail
      go_ret
      exact ⟨rfl, Hbr.out⟩
end Go.Proofs.YtljkclebcoanaaaGreatDoor
