/-
  CONTRACT of rumor.Add. CONDITIONS: none.
-/
import Derived.Test.YtgamocljdbffpaaRumA
import Derived.Test.YtgamocljdbffpaaUIns
import Derived.Deep.CutBlock
import Derived.Deep.DeepCutAuto
namespace Go.Proofs.Ytgamocljdbffpaa
open Go.RowKit
open Go.ChangeShapes Go.WideShapes Go.ChangeAt

def UARes (w : World) (r : (List U × Bool) × Int) (e : Ending) (w' : World) : Prop :=
  ∃ v, e = .returned (.tuple #[v, .bool r.1.2, errV r.2]) ∧ Ow U.cells 4 w.heap.size 39 w' v r.1.1 ∧ Below w.heap.size w w'
theorem uadd_fin {w w2 WB : World} {b0 g off c p : Nat} {l : List U} {r0 r1 r2 r3 : Int} (hOw : Ow U.cells 4 b0 39 w2 (.slice (some ⟨g, off, none⟩) l.length c) l) (hb0 : w.heap.size ≤ b0) (hpl : p < l.length) (hF : Fr (fun k => w2.heap.size ≤ k) w2 WB) (hb : Below w.heap.size w WB) :
    UARes w ((l.set p ⟨r0, r1, r2, r3⟩, true), 0) (.returned (.tuple #[.slice (some ⟨g, off, none⟩) l.length c, .bool true, .nilIface]))
      ((((WB.setCell ⟨g, off + p * 4, none⟩ (.int .i64 r0)).setCell ⟨g, off + p * 4 + 1, none⟩ (.int .i64 r1)).setCell ⟨g, off + p * 4 + 2, none⟩ (.int .i64 r2)).setCell ⟨g, off + p * 4 + 3, none⟩ (.int .i64 r3)) := by
  obtain ⟨A', c', hv, hlc, _, hform⟩ := hOw.form
  cases hv
  obtain ⟨g1, off1, hA1, hbg, hgl, hfo, _⟩ := hform (by omega)
  cases hA1
  have h1 := (hOw.fr hF (fun g' hg' h => by rw [hfo] at hg'; cases hg'; omega)).set U.cells_length hpl (⟨r0, r1, r2, r3⟩ : U)
  have hg : w.heap.size ≤ g := by omega
  exact ⟨_, rfl, h1.mono (by omega), (((hb.setCell (p := ⟨g, _, none⟩) hg _).setCell (p := ⟨g, _, none⟩) hg _).setCell (p := ⟨g, _, none⟩) hg _).setCell (p := ⟨g, _, none⟩) hg _⟩

set_option maxHeartbeats 16000000 in
set_option maxRecDepth 100000 in
theorem uadd_ok (s : SlV U) (x0 x1 x2 : Int) (w : World) (hs : UsAt w s) (hc : chkU s.xs = 0) (hr : rightB ⟨x0, x1, x2⟩ = true) :
    Calls Try.prog 5 #[.slice s.A s.xs.length s.c, .agg #[.int .i64 x0, .int .i64 x1, .int .i64 x2]] w (UARes w (addU s.xs ⟨x0, x1, x2⟩, 0)) := by
  have HC := hid (fun W (hW : Below w.heap.size w W) => ucheck_any s W (hs.stays hW))
  have HR := hid (right_any x0 x1 x2)
  rw [hc, errV_zero] at HC
  rw [hr] at HR
  obtain ⟨hS, hK, hn⟩ := vval_facts (uval_iff.1 hc).1
  rw [um_length] at hn
  have hkk : 0 ≤ x0 ∧ x0 < 6 := by have := (rightB_true.1 hr).1; simp only at this; omega
  have HP := hid (fun (r : SlV U) (hrx : r.xs = s.xs) W (hr : UsAt W r) => show Calls Try.prog 12 #[.slice r.A r.xs.length r.c, .int .i64 x0, .func (.func 13) #[] #[]] W (fun e w' => e = .returned (.tuple #[.int .i64 (vplc x0 (um s.xs)), .bool (vhas x0 (um s.xs))]) ∧ Below W.heap.size W w') from by
    have := ubsf_any x0 r W hr (by rw [hrx]; exact hS) (by rw [hrx]; exact hK) hkk (by rw [hrx]; exact hn)
    rw [hrx] at this ⊢
    exact this)
  have hple := vplc_le x0 (um s.xs)
  rw [um_length] at hple
  have Hs := hid (fun W (hW : Below w.heap.size w W) => hs.stays hW)
  have Hgood := hid hs.each
  have HX0 := hid (Blk.new w 23 #[.int .i64 x0, .int .i64 x1, .int .i64 x2])
  have Hxg := hid (ok_good (of_ok hr))
  have hvh : vhas x0 (um s.xs) = true → vplc x0 (um s.xs) < s.xs.length := fun hh => by
    unfold vhas at hh
    rw [um_length] at hh
    simp at hh
    exact hh.1
  have Hvh := hid hvh
  have hA : addU s.xs ⟨x0, x1, x2⟩ = if vhas x0 (um s.xs) = true then (if aboveB ⟨x0, x1, x2⟩ (s.xs.getD (vplc x0 (um s.xs)) U.zero).mem = true then (s.xs.set (vplc x0 (um s.xs)) ⟨x0, x1, x2, 0⟩, true) else (s.xs, false)) else (s.xs.take (vplc x0 (um s.xs)) ++ ⟨x0, x1, x2, 0⟩ :: s.xs.drop (vplc x0 (um s.xs)), true) := rfl
  generalize addU s.xs ⟨x0, x1, x2⟩ = R at *
  have HA0 := hid hA
  clear hS hK hs hkk hc hr hvh hA
  generalize hp : vplc x0 (um s.xs) = p at *
  generalize hhh : vhas x0 (um s.xs) = hb at *
  clear hp hhh
  go_enter Try.func5, Try.ntmps5
  go_wp2_with fail
  refine (HC.out _ (by (repeat (first | with_reducible exact Below.refl _ _ | with_reducible assumption | (with_reducible refine Below.drew ?_) | (with_reducible refine Below.manyDrew ?_ _) | ((with_reducible refine Below.alloc ?_ ?_ _); rotate_left; (focus (first | omega | (dsimp only; omega) | (simp; done) | (simp; omega)))) | ((with_reducible refine Below.setCell ?_ ?_ _); rotate_left; (focus (first | omega | (dsimp only; omega) | (simp; done) | (simp; omega)))) | ((with_reducible refine Below.step ?_ (by assumption) ?_); rotate_left; (focus (first | omega | (dsimp only; omega) | (simp; done) | (simp; omega)))))))).mono ?_
  rintro e w1 ⟨rfl, hb1⟩
  have hX1 := HX0.out.belowS hb1
  have HX1 := hid hX1
  have Hb1 := hid (Below.step (show Below w.heap.size w (w.alloc _) by (repeat (first | with_reducible exact Below.refl _ _ | with_reducible assumption | (with_reducible refine Below.drew ?_) | (with_reducible refine Below.manyDrew ?_ _) | ((with_reducible refine Below.alloc ?_ ?_ _); rotate_left; (focus (first | omega | (dsimp only; omega) | (simp; done) | (simp; omega)))) | ((with_reducible refine Below.setCell ?_ ?_ _); rotate_left; (focus (first | omega | (dsimp only; omega) | (simp; done) | (simp; omega)))) | ((with_reducible refine Below.step ?_ (by assumption) ?_); rotate_left; (focus (first | omega | (dsimp only; omega) | (simp; done) | (simp; omega))))))) hb1 (by simp))
  have hz1 := Hb1.out.size
  have d0 : w1.cell? ⟨w.heap.size, 0, none⟩ = some (.int .i64 x0) := hX1.cell 0
  have d1 : w1.cell? ⟨w.heap.size, 1, none⟩ = some (.int .i64 x1) := hX1.cell 1
  have d2 : w1.cell? ⟨w.heap.size, 2, none⟩ = some (.int .i64 x2) := hX1.cell 2
  clear hX1 hb1
  go_wp2_with fail
  refine (HR.out w1).mono ?_
  rintro e w2 ⟨rfl, hb2⟩
  have HX2 := hid (HX1.out.belowS hb2)
  have Hb2 := hid (Below.step Hb1.out hb2 hz1)
  have hz2 := Hb2.out.size
  clear d0 d1 d2 hb2
  go_wp2_with fail
  refine (uclone_any s w2 (Hs.out _ Hb2.out) (by omega)).mono ?_
  rintro e w3 ⟨v, rfl, hOw3, hb3⟩
  obtain ⟨r, hv, hrx, hrA, _, _⟩ := UsAt.of_ow hOw3 Hgood.out
  have HOw3 := hid hOw3
  have Hb3 := hid (Below.step Hb2.out hb3 hz2)
  have hz3 := Hb3.out.size
  have hz3b := hb3.size
  have hX3 := HX2.out.belowS hb3
  have Hv := hid hv
  have Hrx := hid hrx
  have HX3 := hid hX3
  have hxl3 := hX3.lt
  rw [hv]
  have k0 : w3.cell? ⟨w.heap.size, 0, none⟩ = some (.int .i64 x0) := hX3.cell 0
  clear hOw3 hX3 hb3 hv hrx
  go_wp2_with fail
  refine (HP.out r Hrx.out w3 hrA).mono ?_
  rintro e w4 ⟨rfl, hb4⟩
  have hX4 := HX3.out.belowS hb4
  have HX4 := hid hX4
  have HOw4 := hid (HOw3.out.belowS hb4)
  have Hb4 := hid (Below.step Hb3.out hb4 hz3)
  have hz4 := Hb4.out.size
  have hxl4 := hX4.lt
  have hz23 : w2.heap.size ≤ w4.heap.size := Nat.le_trans hz3b hb4.size
  have h02 : w.heap.size + 1 ≤ w2.heap.size := HX2.out.lt
  have d0 : w4.cell? ⟨w.heap.size, 0, none⟩ = some (.int .i64 x0) := hX4.cell 0
  have d1 : w4.cell? ⟨w.heap.size, 1, none⟩ = some (.int .i64 x1) := hX4.cell 1
  have d2 : w4.cell? ⟨w.heap.size, 2, none⟩ = some (.int .i64 x2) := hX4.cell 2
  clear k0 hb4 hX4 Hs
  rcases hb with _ | _
  · have hRR := HA0.out
    rw [if_neg (by decide)] at hRR
    subst hRR
    clear HA0
    go_wp2_with fail
    refine (Uins_any w2.heap.size (.slice r.A r.xs.length r.c) s.xs x0 x1 x2 0 Hxg.out w4.heap.size p _ ?_ (Blk.new w4 _ _) ?_ (by omega) (by omega) (by simp; omega)).mono ?_
    · rw [← Hv.out]; exact HOw4.out.alloc _
    · intro h; rw [← Hv.out] at h; have := (HOw4.out.lt h).2; omega
    rintro e w5 ⟨v5, rfl, hOw5, _, hF5⟩
    have hb5 : Below w.heap.size w w5 := (Hb4.out.alloc (by omega) _).trans (hF5.below0 (by simp; omega) (fun i hi => by rw [← Hv.out] at hi; have := HOw4.out.ge i hi; omega))
    have HOw5 := hid (hOw5.mono (base' := w.heap.size) (by omega))
    have Hb5 := hid hb5
    clear hOw5 hF5 hb5
    go_wp2_with fail
    go_ret3
    exact ⟨_, (by rw [errV_zero]; rfl), HOw5.out, Hb5.out⟩
  · have hpl := Hvh.out rfl
    rw [if_pos rfl] at HA0
    have hyg := getD_get U.zero hpl
    generalize s.xs.getD p U.zero = y at *
    obtain ⟨y0, y1, y2, y3⟩ := y
    have Hyg := hid hyg
    clear hyg
    have HA := hid (above_any x0 x1 x2 y0 y1 y2)
    have HA0' := hid (show R = if aboveB ⟨x0, x1, x2⟩ ⟨y0, y1, y2⟩ = true then (s.xs.set p ⟨x0, x1, x2, 0⟩, true) else (s.xs, false) from HA0.out)
    clear HA0
    generalize aboveB ⟨x0, x1, x2⟩ ⟨y0, y1, y2⟩ = bb at *
    obtain ⟨g, off, c, hvg, hlc, hcm, hbg, hgl, hfo, hcells, hfz⟩ := HOw4.out.get (by omega)
    have hrA2 : r.A = some ⟨g, off, none⟩ ∧ r.c = c := by
      have := Hv.out
      rw [hvg] at this
      injection this with e1 _ e2
      exact ⟨e1.symm, e2.symm⟩
    obtain ⟨hA, rfl⟩ := hrA2
    have hrl : r.xs.length = s.xs.length := by rw [Hrx.out]
    rw [hA, hrl]
    have HOw5 := hid (show Ow U.cells 4 w2.heap.size 39 w4 (.slice (some ⟨g, off, none⟩) s.xs.length r.c) s.xs from by rw [← hvg]; exact HOw4.out)
    have j0 : w4.cell? ⟨g, off + p * 4, none⟩ = some (.int .i64 y0) := (hcells p hpl 0 (by decide)).trans (by rw [← Hyg.out]; rfl)
    have j1 : w4.cell? ⟨g, off + p * 4 + 1, none⟩ = some (.int .i64 y1) := (hcells p hpl 1 (by decide)).trans (by rw [← Hyg.out]; rfl)
    have j2 : w4.cell? ⟨g, off + p * 4 + 2, none⟩ = some (.int .i64 y2) := (hcells p hpl 2 (by decide)).trans (by rw [← Hyg.out]; rfl)
    have j3 : w4.cell? ⟨g, off + p * 4 + 3, none⟩ = some (.int .i64 y3) := (hcells p hpl 3 (by decide)).trans (by rw [← Hyg.out]; rfl)
    have z0 : w4.frozen? ⟨g, off + p * 4, none⟩ = false := hfz _
    have z1 : w4.frozen? ⟨g, off + p * 4 + 1, none⟩ = false := hfz _
    have z2 : w4.frozen? ⟨g, off + p * 4 + 2, none⟩ = false := hfz _
    have z3 : w4.frozen? ⟨g, off + p * 4 + 3, none⟩ = false := hfz _
    clear hcells hfz hvg hfo hA hrl HOw3 HOw4 HP HX0 HX1 HX2 HX3 hrA Hv Hrx
    go_upto_region 10 with fail
    go_cut [38] (fun t wx => t = .bool bb ∧ Below w4.heap.size w4 wx)
    case first =>
      go_region_law (first | (go_simp; go_at_call 15; refine (HA.out _).mono ?_; rintro e wj ⟨rfl, hbj⟩; obtain ⟨hcj, hfj⟩ := bcell hbj; have hzj := hbj.size; (try simp only [World.size_alloc] at hzj)))
      all_goals
        go_wp2_with fail
        go_meet
        exact ⟨rfl, by (repeat (first | with_reducible exact Below.refl _ _ | with_reducible assumption | (with_reducible refine Below.drew ?_) | (with_reducible refine Below.manyDrew ?_ _) | ((with_reducible refine Below.alloc ?_ ?_ _); rotate_left; (focus (first | omega | (dsimp only; omega) | (simp; done) | (simp; omega)))) | ((with_reducible refine Below.setCell ?_ ?_ _); rotate_left; (focus (first | omega | (dsimp only; omega) | (simp; done) | (simp; omega)))) | ((with_reducible refine Below.step ?_ (by assumption) ?_); rotate_left; (focus (first | omega | (dsimp only; omega) | (simp; done) | (simp; omega))))))⟩
    case rest =>
    obtain ⟨rfl, hb9⟩ := hcut
    have hgj : g < wc.heap.size := Nat.lt_of_lt_of_le hgl hb9.size
    have hwj : w4.heap.size ≤ wc.heap.size := hb9.size
    have Hbj := hid (Below.step Hb4.out hb9 (by omega))
    have q0 : wc.cell? ⟨g, off + p * 4, none⟩ = some (.int .i64 y0) := (hb9.cell (p := ⟨g, _, none⟩) hgl).trans j0
    have q1 : wc.cell? ⟨g, off + p * 4 + 1, none⟩ = some (.int .i64 y1) := (hb9.cell (p := ⟨g, _, none⟩) hgl).trans j1
    have q2 : wc.cell? ⟨g, off + p * 4 + 2, none⟩ = some (.int .i64 y2) := (hb9.cell (p := ⟨g, _, none⟩) hgl).trans j2
    have q3 : wc.cell? ⟨g, off + p * 4 + 3, none⟩ = some (.int .i64 y3) := (hb9.cell (p := ⟨g, _, none⟩) hgl).trans j3
    have f0 : wc.frozen? ⟨g, off + p * 4, none⟩ = false := (hb9.frozen (p := ⟨g, _, none⟩) hgl).trans z0
    have f1 : wc.frozen? ⟨g, off + p * 4 + 1, none⟩ = false := (hb9.frozen (p := ⟨g, _, none⟩) hgl).trans z1
    have f2 : wc.frozen? ⟨g, off + p * 4 + 2, none⟩ = false := (hb9.frozen (p := ⟨g, _, none⟩) hgl).trans z2
    have f3 : wc.frozen? ⟨g, off + p * 4 + 3, none⟩ = false := (hb9.frozen (p := ⟨g, _, none⟩) hgl).trans z3
    have hB9 := HX4.out.belowS hb9
    have e0 : wc.cell? ⟨w.heap.size, 0, none⟩ = some (.int .i64 x0) := hB9.cell 0
    have e1 : wc.cell? ⟨w.heap.size, 1, none⟩ = some (.int .i64 x1) := hB9.cell 1
    have e2 : wc.cell? ⟨w.heap.size, 2, none⟩ = some (.int .i64 x2) := hB9.cell 2
    have HFj := hid (show Fr (fun k => w4.heap.size ≤ k) w4 wc from Fr.ofB hb9)
    have HOw9 := hid (HOw5.out.belowS hb9)
    clear hb9 hB9 j0 j1 j2 j3 z0 z1 z2 z3 d0 d1 d2
    rcases bb with _ | _
    · have hRR := HA0'.out
      rw [if_neg (by decide)] at hRR
      subst hRR
      go_wp2_with fail
      go_ret3
      exact ⟨_, (by rw [errV_zero]; rfl), HOw9.out.mono (by omega), Hbj.out⟩
    · have hRR := HA0'.out
      rw [if_pos rfl] at hRR
      subst hRR
      clear HA0'
      go_wp2_with fail
      refine bodyPost_ret (v := .tuple #[.slice (some ⟨g, off, none⟩) s.xs.length r.c, .bool true, .nilIface]) ?_ rfl ?_
      · simp [results, Try.results5, go_sem]
      · exact uadd_fin HOw5.out (by omega) hpl HFj.out Hbj.out

set_option maxHeartbeats 4000000 in
theorem uadd_any (s : SlV U) (x0 x1 x2 : Int) (w : World) (hs : UsAt w s) :
    Calls Try.prog 5 #[.slice s.A s.xs.length s.c, .agg #[.int .i64 x0, .int .i64 x1, .int .i64 x2]] w (UARes w (addUR s.xs ⟨x0, x1, x2⟩)) := by
  have HC := hid (fun W (hW : Below w.heap.size w W) => ucheck_any s W (hs.stays hW))
  have HR := hid (right_any x0 x1 x2)
  have HB := hid (Blk.new w 23 #[.int .i64 x0, .int .i64 x1, .int .i64 x2])
  by_cases hc : chkU s.xs = 0
  · by_cases hr : rightB ⟨x0, x1, x2⟩ = true
    · rw [addUR, if_pos hc, if_pos hr]
      exact uadd_ok s x0 x1 x2 w hs hc hr
    · rw [addUR, if_pos hc, if_neg hr]
      have hr' : rightB ⟨x0, x1, x2⟩ = false := by simpa using hr
      rw [hc, errV_zero] at HC
      rw [hr'] at HR
      clear hc hr hr' hs
      go_enter Try.func5, Try.ntmps5
      go_wp2_with fail
      refine (HC.out _ (by (repeat (first | with_reducible exact Below.refl _ _ | with_reducible assumption | (with_reducible refine Below.drew ?_) | (with_reducible refine Below.manyDrew ?_ _) | ((with_reducible refine Below.alloc ?_ ?_ _); rotate_left; (focus (first | omega | (dsimp only; omega) | (simp; done) | (simp; omega)))) | ((with_reducible refine Below.setCell ?_ ?_ _); rotate_left; (focus (first | omega | (dsimp only; omega) | (simp; done) | (simp; omega)))) | ((with_reducible refine Below.step ?_ (by assumption) ?_); rotate_left; (focus (first | omega | (dsimp only; omega) | (simp; done) | (simp; omega)))))))).mono ?_
      rintro e w1 ⟨rfl, hb1⟩
      have hX1 := HB.out.belowS hb1
      have Hb1 := hid (Below.step (show Below w.heap.size w (w.alloc _) by (repeat (first | with_reducible exact Below.refl _ _ | with_reducible assumption | (with_reducible refine Below.drew ?_) | (with_reducible refine Below.manyDrew ?_ _) | ((with_reducible refine Below.alloc ?_ ?_ _); rotate_left; (focus (first | omega | (dsimp only; omega) | (simp; done) | (simp; omega)))) | ((with_reducible refine Below.setCell ?_ ?_ _); rotate_left; (focus (first | omega | (dsimp only; omega) | (simp; done) | (simp; omega)))) | ((with_reducible refine Below.step ?_ (by assumption) ?_); rotate_left; (focus (first | omega | (dsimp only; omega) | (simp; done) | (simp; omega))))))) hb1 (by simp))
      have hz1 := Hb1.out.size
      have d0 : w1.cell? ⟨w.heap.size, 0, none⟩ = some (.int .i64 x0) := hX1.cell 0
      have d1 : w1.cell? ⟨w.heap.size, 1, none⟩ = some (.int .i64 x1) := hX1.cell 1
      have d2 : w1.cell? ⟨w.heap.size, 2, none⟩ = some (.int .i64 x2) := hX1.cell 2
      clear hX1 hb1
      go_wp2_with fail
      refine (HR.out w1).mono ?_
      rintro e w2 ⟨rfl, hb2⟩
      have Hb2 := hid (Below.step Hb1.out hb2 hz1)
      clear d0 d1 d2 hb2
      go_wp2_with fail
      go_ret3
      exact ⟨_, (by rw [errV_ne (show (1 : Int) ≠ 0 by decide)]; rfl), Ow.nil _ _ _ _ _, Hb2.out⟩
  · rw [addUR, if_neg hc]
    have Hen := hid (errV_ne hc)
    generalize chkU s.xs = en at *
    clear hc hs
    go_enter Try.func5, Try.ntmps5
    go_wp2_with fail
    refine (HC.out _ (by (repeat (first | with_reducible exact Below.refl _ _ | with_reducible assumption | (with_reducible refine Below.drew ?_) | (with_reducible refine Below.manyDrew ?_ _) | ((with_reducible refine Below.alloc ?_ ?_ _); rotate_left; (focus (first | omega | (dsimp only; omega) | (simp; done) | (simp; omega)))) | ((with_reducible refine Below.setCell ?_ ?_ _); rotate_left; (focus (first | omega | (dsimp only; omega) | (simp; done) | (simp; omega)))) | ((with_reducible refine Below.step ?_ (by assumption) ?_); rotate_left; (focus (first | omega | (dsimp only; omega) | (simp; done) | (simp; omega)))))))).mono ?_
    rw [Hen.out]
    rintro e w1 ⟨rfl, hb1⟩
    have Hb1 := hid (Below.step (show Below w.heap.size w (w.alloc _) by (repeat (first | with_reducible exact Below.refl _ _ | with_reducible assumption | (with_reducible refine Below.drew ?_) | (with_reducible refine Below.manyDrew ?_ _) | ((with_reducible refine Below.alloc ?_ ?_ _); rotate_left; (focus (first | omega | (dsimp only; omega) | (simp; done) | (simp; omega)))) | ((with_reducible refine Below.setCell ?_ ?_ _); rotate_left; (focus (first | omega | (dsimp only; omega) | (simp; done) | (simp; omega)))) | ((with_reducible refine Below.step ?_ (by assumption) ?_); rotate_left; (focus (first | omega | (dsimp only; omega) | (simp; done) | (simp; omega))))))) hb1 (by simp))
    clear hb1
    go_wp2_with fail
    refine bodyPost_ret (v := .tuple #[.slice none 0 0, .bool false, .iface 42 (.int .i64 en)]) ?_ rfl ⟨_, by rw [Hen.out], Ow.nil _ _ _ _ _, Hb1.out⟩
    simp [results, Try.results5, go_sem]
end Go.Proofs.Ytgamocljdbffpaa
