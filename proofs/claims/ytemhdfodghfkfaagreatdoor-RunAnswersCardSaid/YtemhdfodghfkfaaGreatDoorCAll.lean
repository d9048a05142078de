/-
  CONTRACT of cache.Added where the key is there. CONDITIONS: none.
  CONTRACTS of cache.Add, cache.All, cache.Both. CONDITIONS: none.
-/
import Derived.Test.YtemhdfodghfkfaaGreatDoorCAdd
import Derived.Deep.RegionLaw
import Derived.Deep.CutBlock
import Derived.Deep.DeepCutAuto
import Derived.Test.YtemhdfodghfkfaaGreatDoorCCheck
import Derived.Test.YtemhdfodghfkfaaGreatDoorCLaw
namespace Go.Proofs.YtemhdfodghfkfaaGreatDoor
open Go.RowKit
open Go.ChangeShapes Go.WideShapes Go.ChangeAt

set_option maxHeartbeats 16000000 in
set_option maxRecDepth 100000 in
theorem added_old (s : SlV E) (x0 x1 x2 : Int) (x3 : Bool) (x4 : ByteArray) (w : World) (_hx : (⟨x0, x1, x2, x3, x4⟩ : E).good) (hk : 0 ≤ x0 ∧ x0 < 8) (hs : EsAt w s) (hS : SortedK s.xs) (hK : KeysIn s.xs) (hn : s.xs.length ≤ 8) (hh : hasK x0 s.xs = true) :
    Calls Tryz.prog 158 #[.slice s.A s.xs.length s.c, .agg #[.int .i64 x0, .int .i64 x1, .int .i64 x2, .bool x3, .string x4]] w (CRes w (addC s.xs ⟨x0, x1, x2, x3, x4⟩).1 (addC s.xs ⟨x0, x1, x2, x3, x4⟩).2) := by
  have HP := hid (fun (r : SlV E) (hrx : r.xs = s.xs) W (hr : EsAt W r) => show Calls Tryz.prog 137 #[.slice r.A r.xs.length r.c, .int .i64 x0] W (fun e w' => e = .returned (.tuple #[.int .i64 (plc x0 s.xs), .bool (hasK x0 s.xs)]) ∧ Below W.heap.size W w') from by
    have := place_any x0 r W hr.entries (by rw [hrx]; exact hS) (by rw [hrx]; exact hK) hk (by rw [hrx]; exact hn)
    rw [hrx] at this ⊢
    exact this)
  have hple := plc_le x0 s.xs
  have Hs := hid hs
  have Hgood := hid hs.each
  have hX0 : Blk (w.alloc (.cells #[.int .i64 x0, .int .i64 x1, .int .i64 x2, .bool x3, .string x4] 59)) w.heap.size 59 #[.int .i64 x0, .int .i64 x1, .int .i64 x2, .bool x3, .string x4] := Blk.new _ _ _
  have HX0 := hid hX0
  clear hS hK hs hX0 hk
  rw [addC, if_pos (show hasK (⟨x0, x1, x2, x3, x4⟩ : E).key s.xs = true from hh)]
  show Calls _ _ _ _ (CRes w (if (joined (s.xs.getD (plc x0 s.xs) E.zero) ⟨x0, x1, x2, x3, x4⟩).2 = 0 then (s.xs.set (plc x0 s.xs) (joined (s.xs.getD (plc x0 s.xs) E.zero) ⟨x0, x1, x2, x3, x4⟩).1, (0 : Int)) else ([], (joined (s.xs.getD (plc x0 s.xs) E.zero) ⟨x0, x1, x2, x3, x4⟩).2)).1 (if (joined (s.xs.getD (plc x0 s.xs) E.zero) ⟨x0, x1, x2, x3, x4⟩).2 = 0 then (s.xs.set (plc x0 s.xs) (joined (s.xs.getD (plc x0 s.xs) E.zero) ⟨x0, x1, x2, x3, x4⟩).1, (0 : Int)) else ([], (joined (s.xs.getD (plc x0 s.xs) E.zero) ⟨x0, x1, x2, x3, x4⟩).2)).2)
  have hpl : plc x0 s.xs < s.xs.length := by
    unfold hasK at hh
    simp only [Bool.and_eq_true, decide_eq_true_eq] at hh
    exact hh.1
  generalize hp : plc x0 s.xs = p at *
  have Hh := hid hh
  have hyg := getD_get (l := s.xs) E.zero hpl
  obtain ⟨y, hy⟩ : ∃ y, y = s.xs.getD p E.zero := ⟨_, rfl⟩
  rw [← hy] at hyg ⊢
  obtain ⟨y0, y1, y2, y3, y4⟩ := y
  have HJ := hid (fun W => joined_any y0 y1 y2 y3 y4 x0 x1 x2 x3 x4 W)
  generalize joined ⟨y0, y1, y2, y3, y4⟩ ⟨x0, x1, x2, x3, x4⟩ = R at *
  obtain ⟨⟨r0, r1, r2, r3, r4⟩, en⟩ := R
  have Hyg := hid hyg
  have hpi : (p : Int) < (s.xs.length : Int) := by omega
  have hp0 : (0 : Int) ≤ (p : Int) := by omega
  clear hh hp hyg hy
  simp only at HJ ⊢
  by_cases hen : en = 0
  · subst hen
    simp only [if_pos]
    have HJ2 := hid (fun W => show Calls Tryz.prog 173 #[.agg #[.int .i64 y0, .int .i64 y1, .int .i64 y2, .bool y3, .string y4], .agg #[.int .i64 x0, .int .i64 x1, .int .i64 x2, .bool x3, .string x4]] W (fun e w' => e = .returned (.tuple #[.agg #[.int .i64 r0, .int .i64 r1, .int .i64 r2, .bool r3, .string r4], .nilIface]) ∧ Below W.heap.size W w') from HJ.out W)
    clear HJ
    go_enter Tryz.func158, Tryz.ntmps158
    go_wp2_with fail
    refine (eclone_any s _ (Hs.out.stays (by (repeat (first | with_reducible exact Below.refl _ _ | with_reducible assumption | (with_reducible refine Below.drew ?_) | (with_reducible refine Below.manyDrew ?_ _) | ((with_reducible refine Below.alloc ?_ ?_ _); rotate_left; (focus (first | omega | (dsimp only; omega) | (simp; done) | (simp; omega)))) | ((with_reducible refine Below.setCell ?_ ?_ _); rotate_left; (focus (first | omega | (dsimp only; omega) | (simp; done) | (simp; omega)))) | ((with_reducible refine Below.step ?_ (by assumption) ?_); rotate_left; (focus (first | omega | (dsimp only; omega) | (simp; done) | (simp; omega)))))))) (by omega)).mono ?_
    rintro e w1 ⟨v, rfl, hOw1, hb1⟩
    have hz1 := hb1.size
    rw [World.size_alloc] at hz1 hOw1
    have hb1' : Below w.heap.size w w1 := (show Below w.heap.size w _ by (repeat (first | with_reducible exact Below.refl _ _ | with_reducible assumption | (with_reducible refine Below.drew ?_) | (with_reducible refine Below.manyDrew ?_ _) | ((with_reducible refine Below.alloc ?_ ?_ _); rotate_left; (focus (first | omega | (dsimp only; omega) | (simp; done) | (simp; omega)))) | ((with_reducible refine Below.setCell ?_ ?_ _); rotate_left; (focus (first | omega | (dsimp only; omega) | (simp; done) | (simp; omega)))) | ((with_reducible refine Below.step ?_ (by assumption) ?_); rotate_left; (focus (first | omega | (dsimp only; omega) | (simp; done) | (simp; omega))))))).trans (hb1.mono (by simp))
    obtain ⟨r, hv, hrx, hrA, _, _⟩ := EsAt.of_ow hOw1 Hgood.out
    have HOw1 := hid hOw1
    have Hb1 := hid hb1'
    have hX1 := HX0.out.belowS hb1
    have Hv := hid hv
    have Hrx := hid hrx
    have HX1 := hid hX1
    rw [hv]
    have k0 : w1.cell? ⟨w.heap.size, 0, none⟩ = some (.int .i64 x0) := hX1.cell 0
    clear hOw1 hb1' hX1 hb1 hv hrx
    go_wp2_with fail
    refine (HP.out r Hrx.out w1 hrA).mono ?_
    rw [Hh.out]
    rintro e w2 ⟨rfl, hb2⟩
    have hX2 := HX1.out.belowS hb2
    have HOw2 := hid (HOw1.out.belowS hb2)
    have Hb2 := hid (Below.step Hb1.out hb2 (by omega))
    have hz2 := hb2.size
    obtain ⟨g, off, c, hvg, hlc, hcm, hbg, hgl, hfo, hcells, hfz⟩ := HOw2.out.get (by omega)
    have hrA2 : r.A = some ⟨g, off, none⟩ ∧ r.c = c := by
      have := Hv.out
      rw [hvg] at this
      injection this with e1 _ e2
      exact ⟨e1.symm, e2.symm⟩
    obtain ⟨hA, rfl⟩ := hrA2
    have hrl : r.xs.length = s.xs.length := by rw [Hrx.out]
    rw [hA, hrl]
    have HOw3 := hid (show Ow E.cells 5 (w.heap.size + 1) 59 w2 (.slice (some ⟨g, off, none⟩) s.xs.length r.c) s.xs from by rw [← hvg]; exact HOw2.out)
    have HA := hid hA
    have j0 : w2.cell? ⟨g, off + p * 5, none⟩ = some (.int .i64 y0) := (hcells p hpl 0 (by decide)).trans (by rw [← Hyg.out]; rfl)
    have j1 : w2.cell? ⟨g, off + p * 5 + 1, none⟩ = some (.int .i64 y1) := (hcells p hpl 1 (by decide)).trans (by rw [← Hyg.out]; rfl)
    have j2 : w2.cell? ⟨g, off + p * 5 + 2, none⟩ = some (.int .i64 y2) := (hcells p hpl 2 (by decide)).trans (by rw [← Hyg.out]; rfl)
    have j3 : w2.cell? ⟨g, off + p * 5 + 3, none⟩ = some (.bool y3) := (hcells p hpl 3 (by decide)).trans (by rw [← Hyg.out]; rfl)
    have j4 : w2.cell? ⟨g, off + p * 5 + 4, none⟩ = some (.string y4) := (hcells p hpl 4 (by decide)).trans (by rw [← Hyg.out]; rfl)
    have z0 : w2.frozen? ⟨g, off + p * 5, none⟩ = false := hfz _
    have z1 : w2.frozen? ⟨g, off + p * 5 + 1, none⟩ = false := hfz _
    have z2 : w2.frozen? ⟨g, off + p * 5 + 2, none⟩ = false := hfz _
    have z3 : w2.frozen? ⟨g, off + p * 5 + 3, none⟩ = false := hfz _
    have z4 : w2.frozen? ⟨g, off + p * 5 + 4, none⟩ = false := hfz _
    have d0 : w2.cell? ⟨w.heap.size, 0, none⟩ = some (.int .i64 x0) := hX2.cell 0
    have d1 : w2.cell? ⟨w.heap.size, 1, none⟩ = some (.int .i64 x1) := hX2.cell 1
    have d2 : w2.cell? ⟨w.heap.size, 2, none⟩ = some (.int .i64 x2) := hX2.cell 2
    have d3 : w2.cell? ⟨w.heap.size, 3, none⟩ = some (.bool x3) := hX2.cell 3
    have d4 : w2.cell? ⟨w.heap.size, 4, none⟩ = some (.string x4) := hX2.cell 4
    have hw2 : w.heap.size < w2.heap.size := by omega
    have Hhyp := hid (show w.heap.size + 1 ≤ g ∧ g < w2.heap.size from ⟨hbg, hgl⟩)
    clear hX2 hb2 k0 hcells hfz hvg hfo hrA hA hrl HOw1 Hs HP HX0 HX1 hz1 Hb1
    go_upto_region 5 with fail
    go_cut [9, 10] (fun a er wx => er = .nilIface ∧ BoxR w2 #[.int .i64 r0, .int .i64 r1, .int .i64 r2, .bool r3, .string r4] a wx)
    case first =>
      go_region_law (first | (go_simp; go_at_call 173; refine (HJ2.out _).mono ?_; rintro e wj ⟨rfl, hbj⟩; obtain ⟨hcj, hfj⟩ := bcell hbj; have hzj := hbj.size; (try simp only [World.size_alloc] at hzj)))
      all_goals
        go_wp2_with fail
        go_meet
        refine ⟨rfl, ?_⟩
        have hb2j : Below w2.heap.size w2 wj := by (repeat (first | with_reducible exact Below.refl _ _ | with_reducible assumption | (with_reducible refine Below.drew ?_) | (with_reducible refine Below.manyDrew ?_ _) | ((with_reducible refine Below.alloc ?_ ?_ _); rotate_left; (focus (first | omega | (dsimp only; omega) | (simp; done) | (simp; omega)))) | ((with_reducible refine Below.setCell ?_ ?_ _); rotate_left; (focus (first | omega | (dsimp only; omega) | (simp; done) | (simp; omega)))) | ((with_reducible refine Below.step ?_ (by assumption) ?_); rotate_left; (focus (first | omega | (dsimp only; omega) | (simp; done) | (simp; omega))))))
        first
          | with_reducible exact BoxR.mk2 (g := w2.heap.size) (Blk.newA hbj) (Nat.le_refl _) hb2j
          | with_reducible exact BoxR.mk2 (g := w2.heap.size) (Blk.newD hbj) (Nat.le_refl _) hb2j
          | with_reducible exact BoxR.mk1 hb2j rfl
    case rest =>
    obtain ⟨rfl, g9, rfl, hg9, hB9, hb9⟩ := hcut
    have hgj : g < wc.heap.size := Nat.lt_of_lt_of_le hgl hb9.size
    have hwj : w2.heap.size ≤ wc.heap.size := hb9.size
    have Hbj := hid (Below.step Hb2.out hb9 (by omega))
    have q0 : wc.cell? ⟨g, off + p * 5, none⟩ = some (.int .i64 y0) := (hb9.cell (p := ⟨g, _, none⟩) hgl).trans j0
    have q1 : wc.cell? ⟨g, off + p * 5 + 1, none⟩ = some (.int .i64 y1) := (hb9.cell (p := ⟨g, _, none⟩) hgl).trans j1
    have q2 : wc.cell? ⟨g, off + p * 5 + 2, none⟩ = some (.int .i64 y2) := (hb9.cell (p := ⟨g, _, none⟩) hgl).trans j2
    have q3 : wc.cell? ⟨g, off + p * 5 + 3, none⟩ = some (.bool y3) := (hb9.cell (p := ⟨g, _, none⟩) hgl).trans j3
    have q4 : wc.cell? ⟨g, off + p * 5 + 4, none⟩ = some (.string y4) := (hb9.cell (p := ⟨g, _, none⟩) hgl).trans j4
    have f0 : wc.frozen? ⟨g, off + p * 5, none⟩ = false := (hb9.frozen (p := ⟨g, _, none⟩) hgl).trans z0
    have f1 : wc.frozen? ⟨g, off + p * 5 + 1, none⟩ = false := (hb9.frozen (p := ⟨g, _, none⟩) hgl).trans z1
    have f2 : wc.frozen? ⟨g, off + p * 5 + 2, none⟩ = false := (hb9.frozen (p := ⟨g, _, none⟩) hgl).trans z2
    have f3 : wc.frozen? ⟨g, off + p * 5 + 3, none⟩ = false := (hb9.frozen (p := ⟨g, _, none⟩) hgl).trans z3
    have f4 : wc.frozen? ⟨g, off + p * 5 + 4, none⟩ = false := (hb9.frozen (p := ⟨g, _, none⟩) hgl).trans z4
    have e0 : wc.cell? ⟨g9, 0, none⟩ = some (.int .i64 r0) := hB9.cell 0
    have e1 : wc.cell? ⟨g9, 1, none⟩ = some (.int .i64 r1) := hB9.cell 1
    have e2 : wc.cell? ⟨g9, 2, none⟩ = some (.int .i64 r2) := hB9.cell 2
    have e3 : wc.cell? ⟨g9, 3, none⟩ = some (.bool r3) := hB9.cell 3
    have e4 : wc.cell? ⟨g9, 4, none⟩ = some (.string r4) := hB9.cell 4
    have HFj := hid (show Fr (fun k => w2.heap.size ≤ k) w2 wc from Fr.ofB hb9)
    clear hb9 hB9 j0 j1 j2 j3 j4 z0 z1 z2 z3 z4 d0 d1 d2 d3 d4
    go_wp2_with fail
    refine bodyPost_ret (v := .tuple #[.slice (some ⟨g, off, none⟩) s.xs.length r.c, .nilIface]) ?_ rfl ?_
    · simp [results, Tryz.results158, go_sem]
    · exact added_fin HOw3.out hpl HFj.out Hbj.out
  · rw [if_neg hen]
    have HJ2 := hid (fun W => show Calls Tryz.prog 173 #[.agg #[.int .i64 y0, .int .i64 y1, .int .i64 y2, .bool y3, .string y4], .agg #[.int .i64 x0, .int .i64 x1, .int .i64 x2, .bool x3, .string x4]] W (fun e w' => e = .returned (.tuple #[.agg #[.int .i64 r0, .int .i64 r1, .int .i64 r2, .bool r3, .string r4], .iface 78 (.int .i64 en)]) ∧ Below W.heap.size W w') from by
      have := HJ.out W
      rw [errV_ne hen] at this
      exact this)
    have Hen := hid (errV_ne hen)
    clear HJ hen
    go_enter Tryz.func158, Tryz.ntmps158
    go_wp2_with fail
    refine (eclone_any s _ (Hs.out.stays (by (repeat (first | with_reducible exact Below.refl _ _ | with_reducible assumption | (with_reducible refine Below.drew ?_) | (with_reducible refine Below.manyDrew ?_ _) | ((with_reducible refine Below.alloc ?_ ?_ _); rotate_left; (focus (first | omega | (dsimp only; omega) | (simp; done) | (simp; omega)))) | ((with_reducible refine Below.setCell ?_ ?_ _); rotate_left; (focus (first | omega | (dsimp only; omega) | (simp; done) | (simp; omega)))) | ((with_reducible refine Below.step ?_ (by assumption) ?_); rotate_left; (focus (first | omega | (dsimp only; omega) | (simp; done) | (simp; omega)))))))) (by omega)).mono ?_
    rintro e w1 ⟨v, rfl, hOw1, hb1⟩
    have hz1 := hb1.size
    rw [World.size_alloc] at hz1 hOw1
    have hb1' : Below w.heap.size w w1 := (show Below w.heap.size w _ by (repeat (first | with_reducible exact Below.refl _ _ | with_reducible assumption | (with_reducible refine Below.drew ?_) | (with_reducible refine Below.manyDrew ?_ _) | ((with_reducible refine Below.alloc ?_ ?_ _); rotate_left; (focus (first | omega | (dsimp only; omega) | (simp; done) | (simp; omega)))) | ((with_reducible refine Below.setCell ?_ ?_ _); rotate_left; (focus (first | omega | (dsimp only; omega) | (simp; done) | (simp; omega)))) | ((with_reducible refine Below.step ?_ (by assumption) ?_); rotate_left; (focus (first | omega | (dsimp only; omega) | (simp; done) | (simp; omega))))))).trans (hb1.mono (by simp))
    obtain ⟨r, hv, hrx, hrA, _, _⟩ := EsAt.of_ow hOw1 Hgood.out
    have HOw1 := hid hOw1
    have Hb1 := hid hb1'
    have hX1 := HX0.out.belowS hb1
    have Hv := hid hv
    have Hrx := hid hrx
    have HX1 := hid hX1
    rw [hv]
    have k0 : w1.cell? ⟨w.heap.size, 0, none⟩ = some (.int .i64 x0) := hX1.cell 0
    clear hOw1 hb1' hX1 hb1 hv hrx
    go_wp2_with fail
    refine (HP.out r Hrx.out w1 hrA).mono ?_
    rw [Hh.out]
    rintro e w2 ⟨rfl, hb2⟩
    have hX2 := HX1.out.belowS hb2
    have HOw2 := hid (HOw1.out.belowS hb2)
    have Hb2 := hid (Below.step Hb1.out hb2 (by omega))
    have hz2 := hb2.size
    obtain ⟨g, off, c, hvg, hlc, hcm, hbg, hgl, hfo, hcells, hfz⟩ := HOw2.out.get (by omega)
    have hrA2 : r.A = some ⟨g, off, none⟩ ∧ r.c = c := by
      have := Hv.out
      rw [hvg] at this
      injection this with e1 _ e2
      exact ⟨e1.symm, e2.symm⟩
    obtain ⟨hA, rfl⟩ := hrA2
    have hrl : r.xs.length = s.xs.length := by rw [Hrx.out]
    rw [hA, hrl]
    have HOw3 := hid (show Ow E.cells 5 (w.heap.size + 1) 59 w2 (.slice (some ⟨g, off, none⟩) s.xs.length r.c) s.xs from by rw [← hvg]; exact HOw2.out)
    have HA := hid hA
    have j0 : w2.cell? ⟨g, off + p * 5, none⟩ = some (.int .i64 y0) := (hcells p hpl 0 (by decide)).trans (by rw [← Hyg.out]; rfl)
    have j1 : w2.cell? ⟨g, off + p * 5 + 1, none⟩ = some (.int .i64 y1) := (hcells p hpl 1 (by decide)).trans (by rw [← Hyg.out]; rfl)
    have j2 : w2.cell? ⟨g, off + p * 5 + 2, none⟩ = some (.int .i64 y2) := (hcells p hpl 2 (by decide)).trans (by rw [← Hyg.out]; rfl)
    have j3 : w2.cell? ⟨g, off + p * 5 + 3, none⟩ = some (.bool y3) := (hcells p hpl 3 (by decide)).trans (by rw [← Hyg.out]; rfl)
    have j4 : w2.cell? ⟨g, off + p * 5 + 4, none⟩ = some (.string y4) := (hcells p hpl 4 (by decide)).trans (by rw [← Hyg.out]; rfl)
    have z0 : w2.frozen? ⟨g, off + p * 5, none⟩ = false := hfz _
    have z1 : w2.frozen? ⟨g, off + p * 5 + 1, none⟩ = false := hfz _
    have z2 : w2.frozen? ⟨g, off + p * 5 + 2, none⟩ = false := hfz _
    have z3 : w2.frozen? ⟨g, off + p * 5 + 3, none⟩ = false := hfz _
    have z4 : w2.frozen? ⟨g, off + p * 5 + 4, none⟩ = false := hfz _
    have d0 : w2.cell? ⟨w.heap.size, 0, none⟩ = some (.int .i64 x0) := hX2.cell 0
    have d1 : w2.cell? ⟨w.heap.size, 1, none⟩ = some (.int .i64 x1) := hX2.cell 1
    have d2 : w2.cell? ⟨w.heap.size, 2, none⟩ = some (.int .i64 x2) := hX2.cell 2
    have d3 : w2.cell? ⟨w.heap.size, 3, none⟩ = some (.bool x3) := hX2.cell 3
    have d4 : w2.cell? ⟨w.heap.size, 4, none⟩ = some (.string x4) := hX2.cell 4
    have hw2 : w.heap.size < w2.heap.size := by omega
    have Hhyp := hid (show w.heap.size + 1 ≤ g ∧ g < w2.heap.size from ⟨hbg, hgl⟩)
    clear hX2 hb2 k0 hcells hfz hvg hfo hrA hA hrl HOw1 Hs HP HX0 HX1 hz1 Hb1
    go_upto_region 5 with fail
    go_cut [9, 10] (fun a er wx => er = .iface 78 (.int .i64 en) ∧ BoxR w2 #[.int .i64 r0, .int .i64 r1, .int .i64 r2, .bool r3, .string r4] a wx)
    case first =>
      go_region_law (first | (go_simp; go_at_call 173; refine (HJ2.out _).mono ?_; rintro e wj ⟨rfl, hbj⟩; obtain ⟨hcj, hfj⟩ := bcell hbj; have hzj := hbj.size; (try simp only [World.size_alloc] at hzj)))
      all_goals
        go_wp2_with fail
        go_meet
        refine ⟨rfl, ?_⟩
        have hb2j : Below w2.heap.size w2 wj := by (repeat (first | with_reducible exact Below.refl _ _ | with_reducible assumption | (with_reducible refine Below.drew ?_) | (with_reducible refine Below.manyDrew ?_ _) | ((with_reducible refine Below.alloc ?_ ?_ _); rotate_left; (focus (first | omega | (dsimp only; omega) | (simp; done) | (simp; omega)))) | ((with_reducible refine Below.setCell ?_ ?_ _); rotate_left; (focus (first | omega | (dsimp only; omega) | (simp; done) | (simp; omega)))) | ((with_reducible refine Below.step ?_ (by assumption) ?_); rotate_left; (focus (first | omega | (dsimp only; omega) | (simp; done) | (simp; omega))))))
        first
          | with_reducible exact BoxR.mk2 (g := w2.heap.size) (Blk.newA hbj) (Nat.le_refl _) hb2j
          | with_reducible exact BoxR.mk2 (g := w2.heap.size) (Blk.newD hbj) (Nat.le_refl _) hb2j
          | with_reducible exact BoxR.mk1 hb2j rfl
    case rest =>
    obtain ⟨rfl, g9, rfl, hg9, hB9, hb9⟩ := hcut
    have hgj : g < wc.heap.size := Nat.lt_of_lt_of_le hgl hb9.size
    have hwj : w2.heap.size ≤ wc.heap.size := hb9.size
    have Hbj := hid (Below.step Hb2.out hb9 (by omega))
    clear hb9 hB9 j0 j1 j2 j3 j4 z0 z1 z2 z3 z4 d0 d1 d2 d3 d4
    go_wp2_with fail
    refine bodyPost_ret (v := .tuple #[.slice none 0 0, .iface 78 (.int .i64 en)]) ?_ rfl ?_
    · simp [results, Tryz.results158, go_sem]
    · rw [← Hen.out]
      exact ⟨_, rfl, Ow.nil _ _ _ _ _, Hbj.out⟩

set_option maxHeartbeats 400000 in
set_option maxRecDepth 100000 in
theorem added_any (s : SlV E) (x0 x1 x2 : Int) (x3 : Bool) (x4 : ByteArray) (w : World) (hx : (⟨x0, x1, x2, x3, x4⟩ : E).good) (hk : 0 ≤ x0 ∧ x0 < 8) (hs : EsAt w s) (hS : SortedK s.xs) (hK : KeysIn s.xs) (hn : s.xs.length ≤ 8) :
    Calls Tryz.prog 158 #[.slice s.A s.xs.length s.c, .agg #[.int .i64 x0, .int .i64 x1, .int .i64 x2, .bool x3, .string x4]] w (CRes w (addC s.xs ⟨x0, x1, x2, x3, x4⟩).1 (addC s.xs ⟨x0, x1, x2, x3, x4⟩).2) := by
  rcases hh : hasK x0 s.xs with _ | _
  · exact added_new s x0 x1 x2 x3 x4 w hx hk hs hS hK hn hh
  · exact added_old s x0 x1 x2 x3 x4 w hx hk hs hS hK hn hh
end Go.Proofs.YtemhdfodghfkfaaGreatDoor
namespace Go.Proofs.YtemhdfodghfkfaaGreatDoor
open Go.RowKit
open Go.ChangeShapes Go.WideShapes Go.ChangeAt

theorem chk_goodE {e : E} (h : chk e = 0) : e.good := by
  obtain ⟨h1, h2, h3, _, h5, _⟩ := chk_zero.1 h
  have := keyB_true.1 h1
  have := seqB_true.1 h2
  have := seqB_true.1 h3
  exact ⟨by omega, by omega, by omega, by unfold maxLen; omega⟩
theorem val_good {l : List E} (h : chkC l = 0) : ∀ e ∈ l, e.good := fun e he => chk_goodE ((val_iff.1 h).2 e he)
theorem val_facts {l : List E} (h : chkC l = 0) : SortedK l ∧ KeysIn l ∧ l.length ≤ 8 := by
  obtain ⟨h1, _, h3, h4⟩ := chkC_ok h
  exact ⟨h3, h4, h1⟩
/-- what Add tells, and leaves -/
def addR (l : List E) (e : E) : List E × Bool × Int :=
  if chkC l = 0 then (if chk e = 0 then (if (addC l e).2 = 0 then ((addC l e).1, !eqsE (addC l e).1 l, 0) else ([], false, (addC l e).2)) else ([], false, chk e)) else ([], false, chkC l)
def ARes (w : World) (r : List E × Bool × Int) (e : Ending) (w' : World) : Prop :=
  ∃ v, e = .returned (.tuple #[v, .bool r.2.1, errV r.2.2]) ∧ Ow E.cells 5 w.heap.size 59 w' v r.1 ∧ Below w.heap.size w w'

/-- what a call that hands out both of two does -/
theorem CRes.under {W w : World} {l : List E} {en : Int} {e : Ending} {w' : World} (h : CRes w l en e w') (hb : Below W.heap.size W w) : CRes W l en e w' := by
  obtain ⟨v, h1, h2, h3⟩ := h
  exact ⟨v, h1, h2.mono hb.size, Below.step hb h3 hb.size⟩
set_option maxHeartbeats 4000000 in
set_option maxRecDepth 100000 in
theorem call_any (s m : SlV E) (w : World) (hs : EsAt w s) (hm : EsAt w m) (hvs : chkC s.xs = 0) (hvm : chkC m.xs = 0) :
    Calls Tryz.prog 139 #[.slice s.A s.xs.length s.c, .slice m.A m.xs.length m.c] w (CRes w (allC s.xs m.xs).1 (allC s.xs m.xs).2) := by
  obtain ⟨_, _, hl8⟩ := val_facts hvs
  obtain ⟨_, _, hm8⟩ := val_facts hvm
  have Hgs := hid (val_good hvs)
  have Hvs := hid hvs
  have Hvm := hid hvm
  have Hs := hid hs
  generalize hR : allC s.xs m.xs = R
  have HR := hid hR
  clear hR hvs hvm hs
  go_enter Tryz.func139, Tryz.ntmps139
  go_wp2_with fail
  refine (eclone_any s _ Hs.out (by omega)).mono ?_
  rintro e w1 ⟨v, rfl, hOw1, hb1⟩
  have HOw1 := hid hOw1
  have Hb1 := hid hb1
  clear hOw1 hb1
  go_wp2_with fail
  go_loopw [6, 15] (fun u i wr => ∃ (k : Nat) (l' : List E), k ≤ m.xs.length ∧ i = .int .i64 k ∧ allC l' (m.xs.drop k) = R ∧ chkC l' = 0 ∧ Ow E.cells 5 w.heap.size 59 wr u l' ∧ Below w.heap.size w wr) (fun _ i _ => m.xs.length - (intOf i).toNat)
  case atStart => exact ⟨0, s.xs, Nat.zero_le _, rfl, HR.out, Hvs.out, HOw1.out, Hb1.out⟩
  case round =>
    obtain ⟨k, l', hk, rfl, hRk, hv', hOw, hb⟩ := hrel
    obtain ⟨r, hr, hrx, hrA, _, _⟩ := EsAt.of_ow hOw (val_good hv')
    have Hv' := hid hv'
    have Hrx := hid hrx
    have HrA := hid hrA
    have HOw := hid hOw
    have Hr := hid hr
    have HRk := hid hRk
    have hzb := hb.size
    clear hRk hrx hrA hOw HOw1 Hb1
    by_cases hlt : k < m.xs.length
    · obtain ⟨g, off, hA, hgl, hcells⟩ := hm.row (by omega)
      obtain ⟨k0, k1, k2, k3, k4⟩ := (hcells k hlt).stays hb hgl
      have hy := drop_consD E.zero hlt
      have hych := (val_iff.1 Hvm.out).2 _ (getD_memD E.zero hlt)
      have Hdr := hid hy
      have Hb := hid hb
      rw [hr, hA]
      generalize m.xs.getD k E.zero = y at *
      obtain ⟨y0, y1, y2, y3, y4⟩ := y
      simp only at k0 k1 k2 k3 k4
      have HAd := hid (fun W (hW : Below wr.heap.size wr W) => show Calls Tryz.prog 158 #[.slice r.A r.xs.length r.c, .agg #[.int .i64 y0, .int .i64 y1, .int .i64 y2, .bool y3, .string y4]] W (CRes W (addC l' ⟨y0, y1, y2, y3, y4⟩).1 (addC l' ⟨y0, y1, y2, y3, y4⟩).2) from by
        have := added_any r y0 y1 y2 y3 y4 W (chk_goodE hych) (chk_key hych) (HrA.out.stays hW) (by rw [Hrx.out]; exact (val_facts Hv'.out).1) (by rw [Hrx.out]; exact (val_facts Hv'.out).2.1) (by rw [Hrx.out]; exact (val_facts Hv'.out).2.2)
        rw [Hrx.out] at this ⊢
        exact this)
      have Hkey := hid (fun h => ((addC_key Hv'.out hych).2 h).1)
      rw [Hdr.out, allC] at HRk
      have hgr : g < wr.heap.size := Nat.lt_of_lt_of_le hgl hb.size
      clear hcells hA hy hych hb hv' hr
      by_cases h0 : (addC l' ⟨y0, y1, y2, y3, y4⟩).2 = 0
      · rw [if_pos h0] at HRk
        have hv2 := Hkey.out h0
        rw [h0] at HAd
        generalize (addC l' ⟨y0, y1, y2, y3, y4⟩).1 = l2 at *
        have Hv2 := hid hv2
        clear h0 hv2 Hkey
        go_wp2_with fail
        refine (HAd.out _ (by (repeat (first | with_reducible exact Below.refl _ _ | with_reducible assumption | (with_reducible refine Below.drew ?_) | (with_reducible refine Below.manyDrew ?_ _) | ((with_reducible refine Below.alloc ?_ ?_ _); rotate_left; (focus (first | omega | (dsimp only; omega) | (simp; done) | (simp; omega)))) | ((with_reducible refine Below.setCell ?_ ?_ _); rotate_left; (focus (first | omega | (dsimp only; omega) | (simp; done) | (simp; omega)))) | ((with_reducible refine Below.step ?_ (by assumption) ?_); rotate_left; (focus (first | omega | (dsimp only; omega) | (simp; done) | (simp; omega)))))))).mono ?_
        rintro e w2 ⟨v2, rfl, hOw2, hb2⟩
        rw [errV_zero]
        have Hb2 := hid (Below.step (Hb.out.alloc hzb _) hb2 (by simp; omega))
        have HOw2 := hid (hOw2.mono (base' := w.heap.size) (by simp; omega))
        clear hOw2 hb2
        go_wp2_with fail
        go_roundw
        case rel => exact ⟨k + 1, l2, by omega, by go_num, HRk.out, Hv2.out, HOw2.out, Hb2.out⟩
        case measure => simp [intOf]; omega
      · rw [if_neg h0] at HRk
        have Hen := hid (errV_ne h0)
        generalize (addC l' ⟨y0, y1, y2, y3, y4⟩).2 = en at *
        have HRk2 := hid HRk.out.symm
        clear h0 Hkey
        go_wp2_with fail
        refine (HAd.out _ (by (repeat (first | with_reducible exact Below.refl _ _ | with_reducible assumption | (with_reducible refine Below.drew ?_) | (with_reducible refine Below.manyDrew ?_ _) | ((with_reducible refine Below.alloc ?_ ?_ _); rotate_left; (focus (first | omega | (dsimp only; omega) | (simp; done) | (simp; omega)))) | ((with_reducible refine Below.setCell ?_ ?_ _); rotate_left; (focus (first | omega | (dsimp only; omega) | (simp; done) | (simp; omega)))) | ((with_reducible refine Below.step ?_ (by assumption) ?_); rotate_left; (focus (first | omega | (dsimp only; omega) | (simp; done) | (simp; omega)))))))).mono ?_
        rintro e w2 ⟨v2, rfl, _, hb2⟩
        rw [Hen.out]
        have Hb2 := hid (Below.step (Hb.out.alloc hzb _) hb2 (by simp; omega))
        clear hb2
        go_wp2_with fail
        refine bodyPost_ret (v := .tuple #[.slice none 0 0, .iface 78 (.int .i64 en)]) ?_ rfl ?_
        · simp [results, Tryz.results139, go_sem]
        · rw [HRk2.out, ← Hen.out]
          exact ⟨_, rfl, Ow.nil _ _ _ _ _, Hb2.out⟩
    · obtain rfl : k = m.xs.length := by omega
      have hRe : R = (l', 0) := by
        have := HRk.out
        rw [List.drop_length] at this
        exact this.symm
      have HRe := hid hRe
      have Hb := hid hb
      clear hRe hb hv' hr
      go_wp2_with fail
      go_ret2
      rw [HRe.out]
      exact ⟨_, rfl, HOw.out, Hb.out⟩
end Go.Proofs.YtemhdfodghfkfaaGreatDoor
