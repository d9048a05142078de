/-
  CONTRACT of cache.Added where the key is there. CONDITIONS: none.
  CONTRACTS of cache.Add, cache.All, cache.Both. CONDITIONS: none.
-/
import Derived.Test.YtmgiecoeeidgoaaGreatDoorCAdd
import Derived.Test.YtmgiecoeeidgoaaGreatDoorBoxR
import Derived.Deep.RegionLaw
import Derived.Deep.CutBlock
import Derived.Deep.DeepCutAuto
import Derived.Test.YtmgiecoeeidgoaaGreatDoorEKit
import Derived.Test.YtmgiecoeeidgoaaGreatDoorCLaw
namespace Go.Proofs.YtmgiecoeeidgoaaGreatDoor
open Go.RowKit
open Go.ChangeShapes Go.WideShapes Go.ChangeAt

set_option maxHeartbeats 16000000 in
set_option maxRecDepth 100000 in
theorem added_old (s : SlV E) (x0 x1 x2 : Int) (x3 : Bool) (x4 : ByteArray) (w : World) (_hx : (⟨x0, x1, x2, x3, x4⟩ : E).good) (hk : 0 ≤ x0 ∧ x0 < 8) (hs : EsAt w s) (hS : SortedK s.xs) (hK : KeysIn s.xs) (hn : s.xs.length ≤ 8) (hh : hasK x0 s.xs = true) :
    Calls Tryz.prog 41 #[.slice s.A s.xs.length s.c, .agg #[.int .i64 x0, .int .i64 x1, .int .i64 x2, .bool x3, .string x4]] w (CRes w (addC s.xs ⟨x0, x1, x2, x3, x4⟩).1 (addC s.xs ⟨x0, x1, x2, x3, x4⟩).2) := by
  have HP := hid (fun (r : SlV E) (hrx : r.xs = s.xs) W (hr : EsAt W r) => show Calls Tryz.prog 44 #[.slice r.A r.xs.length r.c, .int .i64 x0] W (fun e w' => e = .returned (.tuple #[.int .i64 (plc x0 s.xs), .bool (hasK x0 s.xs)]) ∧ Below W.heap.size W w') from by
    have := place_any x0 r W hr.entries (by rw [hrx]; exact hS) (by rw [hrx]; exact hK) hk (by rw [hrx]; exact hn)
    rw [hrx] at this ⊢
    exact this)
  have hple := plc_le x0 s.xs
  have Hs := hid hs
  have Hgood := hid hs.each
  have hX0 : Blk (w.alloc (.cells #[.int .i64 x0, .int .i64 x1, .int .i64 x2, .bool x3, .string x4] 38)) w.heap.size 38 #[.int .i64 x0, .int .i64 x1, .int .i64 x2, .bool x3, .string x4] := Blk.new _ _ _
  have HX0 := hid hX0
  clear hS hK hs hX0 hk
  rw [addC, if_pos (show hasK (⟨x0, x1, x2, x3, x4⟩ : E).key s.xs = true from hh)]
  show Calls _ _ _ _ (CRes w (if (joined (s.xs.getD (plc x0 s.xs) E.zero) ⟨x0, x1, x2, x3, x4⟩).2 = 0 then (s.xs.set (plc x0 s.xs) (joined (s.xs.getD (plc x0 s.xs) E.zero) ⟨x0, x1, x2, x3, x4⟩).1, (0 : Int)) else ([], (joined (s.xs.getD (plc x0 s.xs) E.zero) ⟨x0, x1, x2, x3, x4⟩).2)).1 (if (joined (s.xs.getD (plc x0 s.xs) E.zero) ⟨x0, x1, x2, x3, x4⟩).2 = 0 then (s.xs.set (plc x0 s.xs) (joined (s.xs.getD (plc x0 s.xs) E.zero) ⟨x0, x1, x2, x3, x4⟩).1, (0 : Int)) else ([], (joined (s.xs.getD (plc x0 s.xs) E.zero) ⟨x0, x1, x2, x3, x4⟩).2)).2)
  have hpl : plc x0 s.xs < s.xs.length := by
    unfold hasK at hh
    simp only [Bool.and_eq_true, decide_eq_true_eq] at hh
    exact hh.1
  generalize hp : plc x0 s.xs = p at *
  have Hh := hid hh
  have hyg := getD_get (l := s.xs) E.zero hpl
  obtain ⟨y, hy⟩ : ∃ y, y = s.xs.getD p E.zero := ⟨_, rfl⟩
  rw [← hy] at hyg ⊢
  obtain ⟨y0, y1, y2, y3, y4⟩ := y
  have HJ := hid (fun W => joined_any y0 y1 y2 y3 y4 x0 x1 x2 x3 x4 W)
  generalize joined ⟨y0, y1, y2, y3, y4⟩ ⟨x0, x1, x2, x3, x4⟩ = R at *
  obtain ⟨⟨r0, r1, r2, r3, r4⟩, en⟩ := R
  have Hyg := hid hyg
  have hpi : (p : Int) < (s.xs.length : Int) := by omega
  have hp0 : (0 : Int) ≤ (p : Int) := by omega
  clear hh hp hyg hy
  simp only at HJ ⊢
  by_cases hen : en = 0
  · subst hen
    simp only [if_pos]
    have HJ2 := hid (fun W => show Calls Tryz.prog 45 #[.agg #[.int .i64 y0, .int .i64 y1, .int .i64 y2, .bool y3, .string y4], .agg #[.int .i64 x0, .int .i64 x1, .int .i64 x2, .bool x3, .string x4]] W (fun e w' => e = .returned (.tuple #[.agg #[.int .i64 r0, .int .i64 r1, .int .i64 r2, .bool r3, .string r4], .nilIface]) ∧ Below W.heap.size W w') from HJ.out W)
    clear HJ
    go_enter Tryz.func41, Tryz.ntmps41
    go_wp2_with fail
    refine (eclone_any s _ (Hs.out.stays (by (repeat (first | with_reducible exact Below.refl _ _ | with_reducible assumption | (with_reducible refine Below.drew ?_) | (with_reducible refine Below.manyDrew ?_ _) | ((with_reducible refine Below.alloc ?_ ?_ _); rotate_left; (focus (first | omega | (dsimp only; omega) | (simp; done) | (simp; omega)))) | ((with_reducible refine Below.setCell ?_ ?_ _); rotate_left; (focus (first | omega | (dsimp only; omega) | (simp; done) | (simp; omega)))) | ((with_reducible refine Below.step ?_ (by assumption) ?_); rotate_left; (focus (first | omega | (dsimp only; omega) | (simp; done) | (simp; omega)))))))) (by omega)).mono ?_
    rintro e w1 ⟨v, rfl, hOw1, hb1⟩
    have hz1 := hb1.size
    rw [World.size_alloc] at hz1 hOw1
    have hb1' : Below w.heap.size w w1 := (show Below w.heap.size w _ by (repeat (first | with_reducible exact Below.refl _ _ | with_reducible assumption | (with_reducible refine Below.drew ?_) | (with_reducible refine Below.manyDrew ?_ _) | ((with_reducible refine Below.alloc ?_ ?_ _); rotate_left; (focus (first | omega | (dsimp only; omega) | (simp; done) | (simp; omega)))) | ((with_reducible refine Below.setCell ?_ ?_ _); rotate_left; (focus (first | omega | (dsimp only; omega) | (simp; done) | (simp; omega)))) | ((with_reducible refine Below.step ?_ (by assumption) ?_); rotate_left; (focus (first | omega | (dsimp only; omega) | (simp; done) | (simp; omega))))))).trans (hb1.mono (by simp))
    obtain ⟨r, hv, hrx, hrA, _, _⟩ := EsAt.of_ow hOw1 Hgood.out
    have HOw1 := hid hOw1
    have Hb1 := hid hb1'
    have hX1 := HX0.out.belowS hb1
    have Hv := hid hv
    have Hrx := hid hrx
    have HX1 := hid hX1
    rw [hv]
    have k0 : w1.cell? ⟨w.heap.size, 0, none⟩ = some (.int .i64 x0) := hX1.cell 0
    clear hOw1 hb1' hX1 hb1 hv hrx
    go_wp2_with fail
    refine (HP.out r Hrx.out w1 hrA).mono ?_
    rw [Hh.out]
    rintro e w2 ⟨rfl, hb2⟩
    have hX2 := HX1.out.belowS hb2
    have HOw2 := hid (HOw1.out.belowS hb2)
    have Hb2 := hid (Below.step Hb1.out hb2 (by omega))
    have hz2 := hb2.size
    obtain ⟨g, off, c, hvg, hlc, hcm, hbg, hgl, hfo, hcells, hfz⟩ := HOw2.out.get (by omega)
    have hrA2 : r.A = some ⟨g, off, none⟩ ∧ r.c = c := by
      have := Hv.out
      rw [hvg] at this
      injection this with e1 _ e2
      exact ⟨e1.symm, e2.symm⟩
    obtain ⟨hA, rfl⟩ := hrA2
    have hrl : r.xs.length = s.xs.length := by rw [Hrx.out]
    rw [hA, hrl]
    have HOw3 := hid (show Ow E.cells 5 (w.heap.size + 1) 38 w2 (.slice (some ⟨g, off, none⟩) s.xs.length r.c) s.xs from by rw [← hvg]; exact HOw2.out)
    have HA := hid hA
    have j0 : w2.cell? ⟨g, off + p * 5, none⟩ = some (.int .i64 y0) := (hcells p hpl 0 (by decide)).trans (by rw [← Hyg.out]; rfl)
    have j1 : w2.cell? ⟨g, off + p * 5 + 1, none⟩ = some (.int .i64 y1) := (hcells p hpl 1 (by decide)).trans (by rw [← Hyg.out]; rfl)
    have j2 : w2.cell? ⟨g, off + p * 5 + 2, none⟩ = some (.int .i64 y2) := (hcells p hpl 2 (by decide)).trans (by rw [← Hyg.out]; rfl)
    have j3 : w2.cell? ⟨g, off + p * 5 + 3, none⟩ = some (.bool y3) := (hcells p hpl 3 (by decide)).trans (by rw [← Hyg.out]; rfl)
    have j4 : w2.cell? ⟨g, off + p * 5 + 4, none⟩ = some (.string y4) := (hcells p hpl 4 (by decide)).trans (by rw [← Hyg.out]; rfl)
    have z0 : w2.frozen? ⟨g, off + p * 5, none⟩ = false := hfz _
    have z1 : w2.frozen? ⟨g, off + p * 5 + 1, none⟩ = false := hfz _
    have z2 : w2.frozen? ⟨g, off + p * 5 + 2, none⟩ = false := hfz _
    have z3 : w2.frozen? ⟨g, off + p * 5 + 3, none⟩ = false := hfz _
    have z4 : w2.frozen? ⟨g, off + p * 5 + 4, none⟩ = false := hfz _
    have d0 : w2.cell? ⟨w.heap.size, 0, none⟩ = some (.int .i64 x0) := hX2.cell 0
    have d1 : w2.cell? ⟨w.heap.size, 1, none⟩ = some (.int .i64 x1) := hX2.cell 1
    have d2 : w2.cell? ⟨w.heap.size, 2, none⟩ = some (.int .i64 x2) := hX2.cell 2
    have d3 : w2.cell? ⟨w.heap.size, 3, none⟩ = some (.bool x3) := hX2.cell 3
    have d4 : w2.cell? ⟨w.heap.size, 4, none⟩ = some (.string x4) := hX2.cell 4
    have hw2 : w.heap.size < w2.heap.size := by omega
    have Hhyp := hid (show w.heap.size + 1 ≤ g ∧ g < w2.heap.size from ⟨hbg, hgl⟩)
    clear hX2 hb2 k0 hcells hfz hvg hfo hrA hA hrl HOw1 Hs HP HX0 HX1 hz1 Hb1
    go_upto_region 5 with fail
    go_cut [9, 10] (fun a er wx => er = .nilIface ∧ BoxR w2 #[.int .i64 r0, .int .i64 r1, .int .i64 r2, .bool r3, .string r4] a wx)
    case first =>
      go_region_law (first | (go_simp; go_at_call 45; refine (HJ2.out _).mono ?_; rintro e wj ⟨rfl, hbj⟩; obtain ⟨hcj, hfj⟩ := bcell hbj; have hzj := hbj.size; (try simp only [World.size_alloc] at hzj)))
      all_goals
        go_wp2_with fail
        go_meet
        refine ⟨rfl, ?_⟩
        have hb2j : Below w2.heap.size w2 wj := by (repeat (first | with_reducible exact Below.refl _ _ | with_reducible assumption | (with_reducible refine Below.drew ?_) | (with_reducible refine Below.manyDrew ?_ _) | ((with_reducible refine Below.alloc ?_ ?_ _); rotate_left; (focus (first | omega | (dsimp only; omega) | (simp; done) | (simp; omega)))) | ((with_reducible refine Below.setCell ?_ ?_ _); rotate_left; (focus (first | omega | (dsimp only; omega) | (simp; done) | (simp; omega)))) | ((with_reducible refine Below.step ?_ (by assumption) ?_); rotate_left; (focus (first | omega | (dsimp only; omega) | (simp; done) | (simp; omega))))))
        first
          | with_reducible exact BoxR.mk2 (g := w2.heap.size) (Blk.newA hbj) (Nat.le_refl _) hb2j
          | with_reducible exact BoxR.mk2 (g := w2.heap.size) (Blk.newD hbj) (Nat.le_refl _) hb2j
          | with_reducible exact BoxR.mk1 hb2j rfl
    case rest =>
    obtain ⟨rfl, g9, rfl, hg9, hB9, hb9⟩ := hcut
    have hgj : g < wc.heap.size := Nat.lt_of_lt_of_le hgl hb9.size
    have hwj : w2.heap.size ≤ wc.heap.size := hb9.size
    have Hbj := hid (Below.step Hb2.out hb9 (by omega))
    have q0 : wc.cell? ⟨g, off + p * 5, none⟩ = some (.int .i64 y0) := (hb9.cell (p := ⟨g, _, none⟩) hgl).trans j0
    have q1 : wc.cell? ⟨g, off + p * 5 + 1, none⟩ = some (.int .i64 y1) := (hb9.cell (p := ⟨g, _, none⟩) hgl).trans j1
    have q2 : wc.cell? ⟨g, off + p * 5 + 2, none⟩ = some (.int .i64 y2) := (hb9.cell (p := ⟨g, _, none⟩) hgl).trans j2
    have q3 : wc.cell? ⟨g, off + p * 5 + 3, none⟩ = some (.bool y3) := (hb9.cell (p := ⟨g, _, none⟩) hgl).trans j3
    have q4 : wc.cell? ⟨g, off + p * 5 + 4, none⟩ = some (.string y4) := (hb9.cell (p := ⟨g, _, none⟩) hgl).trans j4
    have f0 : wc.frozen? ⟨g, off + p * 5, none⟩ = false := (hb9.frozen (p := ⟨g, _, none⟩) hgl).trans z0
    have f1 : wc.frozen? ⟨g, off + p * 5 + 1, none⟩ = false := (hb9.frozen (p := ⟨g, _, none⟩) hgl).trans z1
    have f2 : wc.frozen? ⟨g, off + p * 5 + 2, none⟩ = false := (hb9.frozen (p := ⟨g, _, none⟩) hgl).trans z2
    have f3 : wc.frozen? ⟨g, off + p * 5 + 3, none⟩ = false := (hb9.frozen (p := ⟨g, _, none⟩) hgl).trans z3
    have f4 : wc.frozen? ⟨g, off + p * 5 + 4, none⟩ = false := (hb9.frozen (p := ⟨g, _, none⟩) hgl).trans z4
    have e0 : wc.cell? ⟨g9, 0, none⟩ = some (.int .i64 r0) := hB9.cell 0
    have e1 : wc.cell? ⟨g9, 1, none⟩ = some (.int .i64 r1) := hB9.cell 1
    have e2 : wc.cell? ⟨g9, 2, none⟩ = some (.int .i64 r2) := hB9.cell 2
    have e3 : wc.cell? ⟨g9, 3, none⟩ = some (.bool r3) := hB9.cell 3
    have e4 : wc.cell? ⟨g9, 4, none⟩ = some (.string r4) := hB9.cell 4
    have HFj := hid (show Fr (fun k => w2.heap.size ≤ k) w2 wc from Fr.ofB hb9)
    clear hb9 hB9 j0 j1 j2 j3 j4 z0 z1 z2 z3 z4 d0 d1 d2 d3 d4
    go_wp2_with fail
    refine bodyPost_ret (v := .tuple #[.slice (some ⟨g, off, none⟩) s.xs.length r.c, .nilIface]) ?_ rfl ?_
    · simp [results, Tryz.results41, go_sem]
    · exact added_fin HOw3.out hpl HFj.out Hbj.out
  · rw [if_neg hen]
    have HJ2 := hid (fun W => show Calls Tryz.prog 45 #[.agg #[.int .i64 y0, .int .i64 y1, .int .i64 y2, .bool y3, .string y4], .agg #[.int .i64 x0, .int .i64 x1, .int .i64 x2, .bool x3, .string x4]] W (fun e w' => e = .returned (.tuple #[.agg #[.int .i64 r0, .int .i64 r1, .int .i64 r2, .bool r3, .string r4], .iface 60 (.int .i64 en)]) ∧ Below W.heap.size W w') from by
      have := HJ.out W
      rw [errV_ne hen] at this
      exact this)
    have Hen := hid (errV_ne hen)
    clear HJ hen
    go_enter Tryz.func41, Tryz.ntmps41
    go_wp2_with fail
    refine (eclone_any s _ (Hs.out.stays (by (repeat (first | with_reducible exact Below.refl _ _ | with_reducible assumption | (with_reducible refine Below.drew ?_) | (with_reducible refine Below.manyDrew ?_ _) | ((with_reducible refine Below.alloc ?_ ?_ _); rotate_left; (focus (first | omega | (dsimp only; omega) | (simp; done) | (simp; omega)))) | ((with_reducible refine Below.setCell ?_ ?_ _); rotate_left; (focus (first | omega | (dsimp only; omega) | (simp; done) | (simp; omega)))) | ((with_reducible refine Below.step ?_ (by assumption) ?_); rotate_left; (focus (first | omega | (dsimp only; omega) | (simp; done) | (simp; omega)))))))) (by omega)).mono ?_
    rintro e w1 ⟨v, rfl, hOw1, hb1⟩
    have hz1 := hb1.size
    rw [World.size_alloc] at hz1 hOw1
    have hb1' : Below w.heap.size w w1 := (show Below w.heap.size w _ by (repeat (first | with_reducible exact Below.refl _ _ | with_reducible assumption | (with_reducible refine Below.drew ?_) | (with_reducible refine Below.manyDrew ?_ _) | ((with_reducible refine Below.alloc ?_ ?_ _); rotate_left; (focus (first | omega | (dsimp only; omega) | (simp; done) | (simp; omega)))) | ((with_reducible refine Below.setCell ?_ ?_ _); rotate_left; (focus (first | omega | (dsimp only; omega) | (simp; done) | (simp; omega)))) | ((with_reducible refine Below.step ?_ (by assumption) ?_); rotate_left; (focus (first | omega | (dsimp only; omega) | (simp; done) | (simp; omega))))))).trans (hb1.mono (by simp))
    obtain ⟨r, hv, hrx, hrA, _, _⟩ := EsAt.of_ow hOw1 Hgood.out
    have HOw1 := hid hOw1
    have Hb1 := hid hb1'
    have hX1 := HX0.out.belowS hb1
    have Hv := hid hv
    have Hrx := hid hrx
    have HX1 := hid hX1
    rw [hv]
    have k0 : w1.cell? ⟨w.heap.size, 0, none⟩ = some (.int .i64 x0) := hX1.cell 0
    clear hOw1 hb1' hX1 hb1 hv hrx
    go_wp2_with fail
    refine (HP.out r Hrx.out w1 hrA).mono ?_
    rw [Hh.out]
    rintro e w2 ⟨rfl, hb2⟩
    have hX2 := HX1.out.belowS hb2
    have HOw2 := hid (HOw1.out.belowS hb2)
    have Hb2 := hid (Below.step Hb1.out hb2 (by omega))
    have hz2 := hb2.size
    obtain ⟨g, off, c, hvg, hlc, hcm, hbg, hgl, hfo, hcells, hfz⟩ := HOw2.out.get (by omega)
    have hrA2 : r.A = some ⟨g, off, none⟩ ∧ r.c = c := by
      have := Hv.out
      rw [hvg] at this
      injection this with e1 _ e2
      exact ⟨e1.symm, e2.symm⟩
    obtain ⟨hA, rfl⟩ := hrA2
    have hrl : r.xs.length = s.xs.length := by rw [Hrx.out]
    rw [hA, hrl]
    have HOw3 := hid (show Ow E.cells 5 (w.heap.size + 1) 38 w2 (.slice (some ⟨g, off, none⟩) s.xs.length r.c) s.xs from by rw [← hvg]; exact HOw2.out)
    have HA := hid hA
    have j0 : w2.cell? ⟨g, off + p * 5, none⟩ = some (.int .i64 y0) := (hcells p hpl 0 (by decide)).trans (by rw [← Hyg.out]; rfl)
    have j1 : w2.cell? ⟨g, off + p * 5 + 1, none⟩ = some (.int .i64 y1) := (hcells p hpl 1 (by decide)).trans (by rw [← Hyg.out]; rfl)
    have j2 : w2.cell? ⟨g, off + p * 5 + 2, none⟩ = some (.int .i64 y2) := (hcells p hpl 2 (by decide)).trans (by rw [← Hyg.out]; rfl)
    have j3 : w2.cell? ⟨g, off + p * 5 + 3, none⟩ = some (.bool y3) := (hcells p hpl 3 (by decide)).trans (by rw [← Hyg.out]; rfl)
    have j4 : w2.cell? ⟨g, off + p * 5 + 4, none⟩ = some (.string y4) := (hcells p hpl 4 (by decide)).trans (by rw [← Hyg.out]; rfl)
    have z0 : w2.frozen? ⟨g, off + p * 5, none⟩ = false := hfz _
    have z1 : w2.frozen? ⟨g, off + p * 5 + 1, none⟩ = false := hfz _
    have z2 : w2.frozen? ⟨g, off + p * 5 + 2, none⟩ = false := hfz _
    have z3 : w2.frozen? ⟨g, off + p * 5 + 3, none⟩ = false := hfz _
    have z4 : w2.frozen? ⟨g, off + p * 5 + 4, none⟩ = false := hfz _
    have d0 : w2.cell? ⟨w.heap.size, 0, none⟩ = some (.int .i64 x0) := hX2.cell 0
    have d1 : w2.cell? ⟨w.heap.size, 1, none⟩ = some (.int .i64 x1) := hX2.cell 1
    have d2 : w2.cell? ⟨w.heap.size, 2, none⟩ = some (.int .i64 x2) := hX2.cell 2
    have d3 : w2.cell? ⟨w.heap.size, 3, none⟩ = some (.bool x3) := hX2.cell 3
    have d4 : w2.cell? ⟨w.heap.size, 4, none⟩ = some (.string x4) := hX2.cell 4
    have hw2 : w.heap.size < w2.heap.size := by omega
    have Hhyp := hid (show w.heap.size + 1 ≤ g ∧ g < w2.heap.size from ⟨hbg, hgl⟩)
    clear hX2 hb2 k0 hcells hfz hvg hfo hrA hA hrl HOw1 Hs HP HX0 HX1 hz1 Hb1
    go_upto_region 5 with fail
    go_cut [9, 10] (fun a er wx => er = .iface 60 (.int .i64 en) ∧ BoxR w2 #[.int .i64 r0, .int .i64 r1, .int .i64 r2, .bool r3, .string r4] a wx)
    case first =>
      go_region_law (first | (go_simp; go_at_call 45; refine (HJ2.out _).mono ?_; rintro e wj ⟨rfl, hbj⟩; obtain ⟨hcj, hfj⟩ := bcell hbj; have hzj := hbj.size; (try simp only [World.size_alloc] at hzj)))
      all_goals
        go_wp2_with fail
        go_meet
        refine ⟨rfl, ?_⟩
        have hb2j : Below w2.heap.size w2 wj := by (repeat (first | with_reducible exact Below.refl _ _ | with_reducible assumption | (with_reducible refine Below.drew ?_) | (with_reducible refine Below.manyDrew ?_ _) | ((with_reducible refine Below.alloc ?_ ?_ _); rotate_left; (focus (first | omega | (dsimp only; omega) | (simp; done) | (simp; omega)))) | ((with_reducible refine Below.setCell ?_ ?_ _); rotate_left; (focus (first | omega | (dsimp only; omega) | (simp; done) | (simp; omega)))) | ((with_reducible refine Below.step ?_ (by assumption) ?_); rotate_left; (focus (first | omega | (dsimp only; omega) | (simp; done) | (simp; omega))))))
        first
          | with_reducible exact BoxR.mk2 (g := w2.heap.size) (Blk.newA hbj) (Nat.le_refl _) hb2j
          | with_reducible exact BoxR.mk2 (g := w2.heap.size) (Blk.newD hbj) (Nat.le_refl _) hb2j
          | with_reducible exact BoxR.mk1 hb2j rfl
    case rest =>
    obtain ⟨rfl, g9, rfl, hg9, hB9, hb9⟩ := hcut
    have hgj : g < wc.heap.size := Nat.lt_of_lt_of_le hgl hb9.size
    have hwj : w2.heap.size ≤ wc.heap.size := hb9.size
    have Hbj := hid (Below.step Hb2.out hb9 (by omega))
    clear hb9 hB9 j0 j1 j2 j3 j4 z0 z1 z2 z3 z4 d0 d1 d2 d3 d4
    go_wp2_with fail
    refine bodyPost_ret (v := .tuple #[.slice none 0 0, .iface 60 (.int .i64 en)]) ?_ rfl ?_
    · simp [results, Tryz.results41, go_sem]
    · rw [← Hen.out]
      exact ⟨_, rfl, Ow.nil _ _ _ _ _, Hbj.out⟩

set_option maxHeartbeats 400000 in
set_option maxRecDepth 100000 in
theorem added_any (s : SlV E) (x0 x1 x2 : Int) (x3 : Bool) (x4 : ByteArray) (w : World) (hx : (⟨x0, x1, x2, x3, x4⟩ : E).good) (hk : 0 ≤ x0 ∧ x0 < 8) (hs : EsAt w s) (hS : SortedK s.xs) (hK : KeysIn s.xs) (hn : s.xs.length ≤ 8) :
    Calls Tryz.prog 41 #[.slice s.A s.xs.length s.c, .agg #[.int .i64 x0, .int .i64 x1, .int .i64 x2, .bool x3, .string x4]] w (CRes w (addC s.xs ⟨x0, x1, x2, x3, x4⟩).1 (addC s.xs ⟨x0, x1, x2, x3, x4⟩).2) := by
  rcases hh : hasK x0 s.xs with _ | _
  · exact added_new s x0 x1 x2 x3 x4 w hx hk hs hS hK hn hh
  · exact added_old s x0 x1 x2 x3 x4 w hx hk hs hS hK hn hh
end Go.Proofs.YtmgiecoeeidgoaaGreatDoor
namespace Go.Proofs.YtmgiecoeeidgoaaGreatDoor
open Go.RowKit
open Go.ChangeShapes Go.WideShapes Go.ChangeAt

theorem chk_goodE {e : E} (h : chk e = 0) : e.good := by
  obtain ⟨h1, h2, h3, _, h5, _⟩ := chk_zero.1 h
  have := keyB_true.1 h1
  have := seqB_true.1 h2
  have := seqB_true.1 h3
  exact ⟨by omega, by omega, by omega, by unfold maxLen; omega⟩
theorem val_good {l : List E} (h : chkC l = 0) : ∀ e ∈ l, e.good := fun e he => chk_goodE ((val_iff.1 h).2 e he)
theorem val_facts {l : List E} (h : chkC l = 0) : SortedK l ∧ KeysIn l ∧ l.length ≤ 8 := by
  obtain ⟨h1, _, h3, h4⟩ := chkC_ok h
  exact ⟨h3, h4, h1⟩
/-- what Add tells, and leaves -/
def addR (l : List E) (e : E) : List E × Bool × Int :=
  if chkC l = 0 then (if chk e = 0 then (if (addC l e).2 = 0 then ((addC l e).1, !eqsE (addC l e).1 l, 0) else ([], false, (addC l e).2)) else ([], false, chk e)) else ([], false, chkC l)
def ARes (w : World) (r : List E × Bool × Int) (e : Ending) (w' : World) : Prop :=
  ∃ v, e = .returned (.tuple #[v, .bool r.2.1, errV r.2.2]) ∧ Ow E.cells 5 w.heap.size 38 w' v r.1 ∧ Below w.heap.size w w'

set_option maxHeartbeats 4000000 in
set_option maxRecDepth 100000 in
theorem cadd_any (s : SlV E) (x0 x1 x2 : Int) (x3 : Bool) (x4 : ByteArray) (w : World) (hx : x4.size ≤ maxLen) (hs : EsAt w s) :
    Calls Tryz.prog 13 #[.slice s.A s.xs.length s.c, .agg #[.int .i64 x0, .int .i64 x1, .int .i64 x2, .bool x3, .string x4]] w (ARes w (addR s.xs ⟨x0, x1, x2, x3, x4⟩)) := by
  have HC := hid (fun W (hW : Below w.heap.size w W) => ccheck_any s W (hs.stays hW).entries)
  have HK := hid (fun W => check_any x0 x1 x2 x3 x4 W hx)
  have HB := hid (Blk.new w 38 #[.int .i64 x0, .int .i64 x1, .int .i64 x2, .bool x3, .string x4])
  by_cases hc : chkC s.xs = 0
  · by_cases hk : chk ⟨x0, x1, x2, x3, x4⟩ = 0
    · rw [addR, if_pos hc, if_pos hk]
      have HS := hid (fun W (hW : Below w.heap.size w W) => added_any s x0 x1 x2 x3 x4 W (chk_goodE hk) (chk_key hk) (hs.stays hW) (val_facts hc).1 (val_facts hc).2.1 (val_facts hc).2.2)
      have HE := hid (fun (r : SlV E) W (hW : Below w.heap.size w W) (hr : EsAt W r) => eequal_any r s W hr (hs.stays hW))
      have Hval := hid (fun h => ((addC_key hc hk).2 h).1)
      have Hc := hid hc
      have Hk := hid hk
      clear hc hk hs
      generalize addC s.xs ⟨x0, x1, x2, x3, x4⟩ = R at *
      obtain ⟨l', en⟩ := R
      simp only at HS Hval ⊢
      by_cases h0 : en = 0
      · subst h0
        rw [if_pos rfl]
        have Hgood := hid (val_good (Hval.out rfl))
        go_enter Tryz.func13, Tryz.ntmps13
        go_wp2_with fail
        refine (HC.out _ (by (repeat (first | with_reducible exact Below.refl _ _ | with_reducible assumption | (with_reducible refine Below.drew ?_) | (with_reducible refine Below.manyDrew ?_ _) | ((with_reducible refine Below.alloc ?_ ?_ _); rotate_left; (focus (first | omega | (dsimp only; omega) | (simp; done) | (simp; omega)))) | ((with_reducible refine Below.setCell ?_ ?_ _); rotate_left; (focus (first | omega | (dsimp only; omega) | (simp; done) | (simp; omega)))) | ((with_reducible refine Below.step ?_ (by assumption) ?_); rotate_left; (focus (first | omega | (dsimp only; omega) | (simp; done) | (simp; omega)))))))).mono ?_
        rw [Hc.out, errV_zero]
        rintro e w1 ⟨rfl, hb1⟩
        have hX1 := HB.out.belowS hb1
        have d0 : w1.cell? ⟨w.heap.size, 0, none⟩ = some (.int .i64 x0) := hX1.cell 0
        have d1 : w1.cell? ⟨w.heap.size, 1, none⟩ = some (.int .i64 x1) := hX1.cell 1
        have d2 : w1.cell? ⟨w.heap.size, 2, none⟩ = some (.int .i64 x2) := hX1.cell 2
        have d3 : w1.cell? ⟨w.heap.size, 3, none⟩ = some (.bool x3) := hX1.cell 3
        have d4 : w1.cell? ⟨w.heap.size, 4, none⟩ = some (.string x4) := hX1.cell 4
        have HX1 := hid hX1
        have hb1' : Below w.heap.size w w1 := (show Below w.heap.size w _ by (repeat (first | with_reducible exact Below.refl _ _ | with_reducible assumption | (with_reducible refine Below.drew ?_) | (with_reducible refine Below.manyDrew ?_ _) | ((with_reducible refine Below.alloc ?_ ?_ _); rotate_left; (focus (first | omega | (dsimp only; omega) | (simp; done) | (simp; omega)))) | ((with_reducible refine Below.setCell ?_ ?_ _); rotate_left; (focus (first | omega | (dsimp only; omega) | (simp; done) | (simp; omega)))) | ((with_reducible refine Below.step ?_ (by assumption) ?_); rotate_left; (focus (first | omega | (dsimp only; omega) | (simp; done) | (simp; omega))))))).trans (hb1.mono (by simp))
        have Hb1 := hid hb1'
        have hz1 := hb1'.size
        clear hX1 hb1 hb1'
        go_wp2_with fail
        refine (HK.out _).mono ?_
        rw [Hk.out, errV_zero]
        rintro e w2 ⟨rfl, hb2⟩
        have hX2 := HX1.out.belowS hb2
        have Hb2 := hid (Below.step Hb1.out hb2 hz1)
        have hz2 := Hb2.out.size
        clear d0 d1 d2 d3 d4
        have d0 : w2.cell? ⟨w.heap.size, 0, none⟩ = some (.int .i64 x0) := hX2.cell 0
        have d1 : w2.cell? ⟨w.heap.size, 1, none⟩ = some (.int .i64 x1) := hX2.cell 1
        have d2 : w2.cell? ⟨w.heap.size, 2, none⟩ = some (.int .i64 x2) := hX2.cell 2
        have d3 : w2.cell? ⟨w.heap.size, 3, none⟩ = some (.bool x3) := hX2.cell 3
        have d4 : w2.cell? ⟨w.heap.size, 4, none⟩ = some (.string x4) := hX2.cell 4
        clear hX2 hb2
        go_wp2_with fail
        refine (HS.out _ Hb2.out).mono ?_
        rintro e w3 ⟨v, rfl, hOw, hb3⟩
        simp only [errV_zero]
        obtain ⟨r, rfl, hrx, hrA, _, _⟩ := EsAt.of_ow hOw Hgood.out
        have Hb3 := hid (Below.step Hb2.out hb3 hz2)
        have HOw := hid (hOw.mono (base' := w.heap.size) hz2)
        have HrA := hid hrA
        have Hrx := hid hrx
        clear hOw hb3 hrA hrx d0 d1 d2 d3 d4
        go_wp2_with fail
        refine (HE.out r w3 Hb3.out HrA.out).mono ?_
        rw [Hrx.out]
        rintro e w4 ⟨rfl, hb4⟩
        have Hb4 := hid (Below.step Hb3.out hb4 Hb3.out.size)
        have HOw4 := hid (HOw.out.belowS hb4)
        clear hb4
        go_wp2_with fail
        go_ret3
        rw [Hrx.out] at HOw4
        exact ⟨_, rfl, HOw4.out, Hb4.out⟩
      · rw [if_neg h0]
        have Hen := hid (errV_ne h0)
        clear h0
        go_enter Tryz.func13, Tryz.ntmps13
        go_wp2_with fail
        refine (HC.out _ (by (repeat (first | with_reducible exact Below.refl _ _ | with_reducible assumption | (with_reducible refine Below.drew ?_) | (with_reducible refine Below.manyDrew ?_ _) | ((with_reducible refine Below.alloc ?_ ?_ _); rotate_left; (focus (first | omega | (dsimp only; omega) | (simp; done) | (simp; omega)))) | ((with_reducible refine Below.setCell ?_ ?_ _); rotate_left; (focus (first | omega | (dsimp only; omega) | (simp; done) | (simp; omega)))) | ((with_reducible refine Below.step ?_ (by assumption) ?_); rotate_left; (focus (first | omega | (dsimp only; omega) | (simp; done) | (simp; omega)))))))).mono ?_
        rw [Hc.out, errV_zero]
        rintro e w1 ⟨rfl, hb1⟩
        have hX1 := HB.out.belowS hb1
        have d0 : w1.cell? ⟨w.heap.size, 0, none⟩ = some (.int .i64 x0) := hX1.cell 0
        have d1 : w1.cell? ⟨w.heap.size, 1, none⟩ = some (.int .i64 x1) := hX1.cell 1
        have d2 : w1.cell? ⟨w.heap.size, 2, none⟩ = some (.int .i64 x2) := hX1.cell 2
        have d3 : w1.cell? ⟨w.heap.size, 3, none⟩ = some (.bool x3) := hX1.cell 3
        have d4 : w1.cell? ⟨w.heap.size, 4, none⟩ = some (.string x4) := hX1.cell 4
        have HX1 := hid hX1
        have hb1' : Below w.heap.size w w1 := (show Below w.heap.size w _ by (repeat (first | with_reducible exact Below.refl _ _ | with_reducible assumption | (with_reducible refine Below.drew ?_) | (with_reducible refine Below.manyDrew ?_ _) | ((with_reducible refine Below.alloc ?_ ?_ _); rotate_left; (focus (first | omega | (dsimp only; omega) | (simp; done) | (simp; omega)))) | ((with_reducible refine Below.setCell ?_ ?_ _); rotate_left; (focus (first | omega | (dsimp only; omega) | (simp; done) | (simp; omega)))) | ((with_reducible refine Below.step ?_ (by assumption) ?_); rotate_left; (focus (first | omega | (dsimp only; omega) | (simp; done) | (simp; omega))))))).trans (hb1.mono (by simp))
        have Hb1 := hid hb1'
        have hz1 := hb1'.size
        clear hX1 hb1 hb1'
        go_wp2_with fail
        refine (HK.out _).mono ?_
        rw [Hk.out, errV_zero]
        rintro e w2 ⟨rfl, hb2⟩
        have hX2 := HX1.out.belowS hb2
        have Hb2 := hid (Below.step Hb1.out hb2 hz1)
        have hz2 := Hb2.out.size
        clear d0 d1 d2 d3 d4
        have d0 : w2.cell? ⟨w.heap.size, 0, none⟩ = some (.int .i64 x0) := hX2.cell 0
        have d1 : w2.cell? ⟨w.heap.size, 1, none⟩ = some (.int .i64 x1) := hX2.cell 1
        have d2 : w2.cell? ⟨w.heap.size, 2, none⟩ = some (.int .i64 x2) := hX2.cell 2
        have d3 : w2.cell? ⟨w.heap.size, 3, none⟩ = some (.bool x3) := hX2.cell 3
        have d4 : w2.cell? ⟨w.heap.size, 4, none⟩ = some (.string x4) := hX2.cell 4
        clear hX2 hb2
        go_wp2_with fail
        refine (HS.out _ Hb2.out).mono ?_
        rintro e w3 ⟨v, rfl, _, hb3⟩
        rw [Hen.out]
        have Hb3 := hid (Below.step Hb2.out hb3 hz2)
        clear hb3 d0 d1 d2 d3 d4
        go_wp2_with fail
        refine bodyPost_ret (v := .tuple #[.slice none 0 0, .bool false, .iface 60 (.int .i64 en)]) ?_ rfl ?_
        · simp [results, Tryz.results13, go_sem]
        · rw [← Hen.out]
          exact ⟨_, rfl, Ow.nil _ _ _ _ _, Hb3.out⟩
    · rw [addR, if_pos hc, if_neg hk]
      have Hen := hid (errV_ne hk)
      have Hc := hid hc
      generalize chk ⟨x0, x1, x2, x3, x4⟩ = en at *
      clear hc hk hs
      go_enter Tryz.func13, Tryz.ntmps13
      go_wp2_with fail
      refine (HC.out _ (by (repeat (first | with_reducible exact Below.refl _ _ | with_reducible assumption | (with_reducible refine Below.drew ?_) | (with_reducible refine Below.manyDrew ?_ _) | ((with_reducible refine Below.alloc ?_ ?_ _); rotate_left; (focus (first | omega | (dsimp only; omega) | (simp; done) | (simp; omega)))) | ((with_reducible refine Below.setCell ?_ ?_ _); rotate_left; (focus (first | omega | (dsimp only; omega) | (simp; done) | (simp; omega)))) | ((with_reducible refine Below.step ?_ (by assumption) ?_); rotate_left; (focus (first | omega | (dsimp only; omega) | (simp; done) | (simp; omega)))))))).mono ?_
      rw [Hc.out, errV_zero]
      rintro e w1 ⟨rfl, hb1⟩
      have hX1 := HB.out.belowS hb1
      have d0 : w1.cell? ⟨w.heap.size, 0, none⟩ = some (.int .i64 x0) := hX1.cell 0
      have d1 : w1.cell? ⟨w.heap.size, 1, none⟩ = some (.int .i64 x1) := hX1.cell 1
      have d2 : w1.cell? ⟨w.heap.size, 2, none⟩ = some (.int .i64 x2) := hX1.cell 2
      have d3 : w1.cell? ⟨w.heap.size, 3, none⟩ = some (.bool x3) := hX1.cell 3
      have d4 : w1.cell? ⟨w.heap.size, 4, none⟩ = some (.string x4) := hX1.cell 4
      have HX1 := hid hX1
      have hb1' : Below w.heap.size w w1 := (show Below w.heap.size w _ by (repeat (first | with_reducible exact Below.refl _ _ | with_reducible assumption | (with_reducible refine Below.drew ?_) | (with_reducible refine Below.manyDrew ?_ _) | ((with_reducible refine Below.alloc ?_ ?_ _); rotate_left; (focus (first | omega | (dsimp only; omega) | (simp; done) | (simp; omega)))) | ((with_reducible refine Below.setCell ?_ ?_ _); rotate_left; (focus (first | omega | (dsimp only; omega) | (simp; done) | (simp; omega)))) | ((with_reducible refine Below.step ?_ (by assumption) ?_); rotate_left; (focus (first | omega | (dsimp only; omega) | (simp; done) | (simp; omega))))))).trans (hb1.mono (by simp))
      have Hb1 := hid hb1'
      have hz1 := hb1'.size
      clear hX1 hb1 hb1'
      go_wp2_with fail
      refine (HK.out _).mono ?_
      rw [Hen.out]
      rintro e w2 ⟨rfl, hb2⟩
      have Hb2 := hid (Below.step Hb1.out hb2 hz1)
      clear hb2 d0 d1 d2 d3 d4
      go_wp2_with fail
      refine bodyPost_ret (v := .tuple #[.slice none 0 0, .bool false, .iface 60 (.int .i64 en)]) ?_ rfl ?_
      · simp [results, Tryz.results13, go_sem]
      · rw [← Hen.out]
        exact ⟨_, rfl, Ow.nil _ _ _ _ _, Hb2.out⟩
  · rw [addR, if_neg hc]
    have Hen := hid (errV_ne hc)
    generalize chkC s.xs = en at *
    clear hc hs
    go_enter Tryz.func13, Tryz.ntmps13
    go_wp2_with fail
    refine (HC.out _ (by (repeat (first | with_reducible exact Below.refl _ _ | with_reducible assumption | (with_reducible refine Below.drew ?_) | (with_reducible refine Below.manyDrew ?_ _) | ((with_reducible refine Below.alloc ?_ ?_ _); rotate_left; (focus (first | omega | (dsimp only; omega) | (simp; done) | (simp; omega)))) | ((with_reducible refine Below.setCell ?_ ?_ _); rotate_left; (focus (first | omega | (dsimp only; omega) | (simp; done) | (simp; omega)))) | ((with_reducible refine Below.step ?_ (by assumption) ?_); rotate_left; (focus (first | omega | (dsimp only; omega) | (simp; done) | (simp; omega)))))))).mono ?_
    rw [Hen.out]
    rintro e w1 ⟨rfl, hb1⟩
    have Hb1 := hid ((show Below w.heap.size w _ by (repeat (first | with_reducible exact Below.refl _ _ | with_reducible assumption | (with_reducible refine Below.drew ?_) | (with_reducible refine Below.manyDrew ?_ _) | ((with_reducible refine Below.alloc ?_ ?_ _); rotate_left; (focus (first | omega | (dsimp only; omega) | (simp; done) | (simp; omega)))) | ((with_reducible refine Below.setCell ?_ ?_ _); rotate_left; (focus (first | omega | (dsimp only; omega) | (simp; done) | (simp; omega)))) | ((with_reducible refine Below.step ?_ (by assumption) ?_); rotate_left; (focus (first | omega | (dsimp only; omega) | (simp; done) | (simp; omega))))))).trans (hb1.mono (by simp)))
    clear hb1
    go_wp2_with fail
    refine bodyPost_ret (v := .tuple #[.slice none 0 0, .bool false, .iface 60 (.int .i64 en)]) ?_ rfl ?_
    · simp [results, Tryz.results13, go_sem]
    · rw [← Hen.out]
      exact ⟨_, rfl, Ow.nil _ _ _ _ _, Hb1.out⟩

/-- what a call that hands out both of two does -/
theorem CRes.under {W w : World} {l : List E} {en : Int} {e : Ending} {w' : World} (h : CRes w l en e w') (hb : Below W.heap.size W w) : CRes W l en e w' := by
  obtain ⟨v, h1, h2, h3⟩ := h
  exact ⟨v, h1, h2.mono hb.size, Below.step hb h3 hb.size⟩
end Go.Proofs.YtmgiecoeeidgoaaGreatDoor
