/-
  CONTRACTS: view.added, view.Add, view.Both. CONDITIONS: none.
-/
import Derived.Test.YtgamocljdbffpaaDoorView2
import Derived.Test.YtgamocljdbffpaaDoorMIns
import Derived.Deep.CutBlock
import Derived.Deep.DeepCutAuto
namespace Go.Proofs.YtgamocljdbffpaaDoor
open Go.RowKit
open Go.ChangeShapes Go.WideShapes Go.ChangeAt

/-- what a call that hands out a view, and whether it is another one, does -/
def VRes (w : World) (l' : List M) (b : Bool) (e : Ending) (w' : World) : Prop :=
  ∃ v, e = .returned (.tuple #[v, .bool b]) ∧ Ow M.cells 3 w.heap.size 52 w' v l' ∧ Below w.heap.size w w'
theorem vadded_fin {w w2 WB : World} {g off c p : Nat} {l : List M} {r0 r1 r2 : Int} (hOw : Ow M.cells 3 (w.heap.size + 1) 52 w2 (.slice (some ⟨g, off, none⟩) l.length c) l) (hpl : p < l.length) (hF : Fr (fun k => w2.heap.size ≤ k) w2 WB) (hb : Below w.heap.size w WB) :
    VRes w (l.set p ⟨r0, r1, r2⟩) true (.returned (.tuple #[.slice (some ⟨g, off, none⟩) l.length c, .bool true]))
      (((WB.setCell ⟨g, off + p * 3, none⟩ (.int .i64 r0)).setCell ⟨g, off + p * 3 + 1, none⟩ (.int .i64 r1)).setCell ⟨g, off + p * 3 + 2, none⟩ (.int .i64 r2)) := by
  obtain ⟨A', c', hv, hlc, _, hform⟩ := hOw.form
  cases hv
  obtain ⟨g1, off1, hA1, hbg, hgl, hfo, _⟩ := hform (by omega)
  cases hA1
  have h1 := (hOw.fr hF (fun g' hg' h => by rw [hfo] at hg'; cases hg'; omega)).set M.cells_length hpl (⟨r0, r1, r2⟩ : M)
  have hg : w.heap.size ≤ g := by omega
  exact ⟨_, rfl, h1.mono (by omega), ((hb.setCell (p := ⟨g, _, none⟩) hg _).setCell (p := ⟨g, _, none⟩) hg _).setCell (p := ⟨g, _, none⟩) hg _⟩

set_option maxHeartbeats 16000000 in
set_option maxRecDepth 100000 in
theorem vadded_any (s : SlV M) (x0 x1 x2 : Int) (w : World) (hr : rightB ⟨x0, x1, x2⟩ = true) (hs : MsAt w s) (hv : chkV s.xs = 0) :
    Calls Tryd.prog 43 #[.slice s.A s.xs.length s.c, .agg #[.int .i64 x0, .int .i64 x1, .int .i64 x2]] w (VRes w (addV s.xs ⟨x0, x1, x2⟩).1 (addV s.xs ⟨x0, x1, x2⟩).2) := by
  obtain ⟨hS, hK, hn⟩ := vval_facts hv
  have hkk : 0 ≤ x0 ∧ x0 < 6 := by have := (rightB_true.1 hr).1; simp only at this; omega
  have HP := hid (fun (r : SlV M) (hrx : r.xs = s.xs) W (hr : MsAt W r) => show Calls Tryd.prog 62 #[.slice r.A r.xs.length r.c, .int .i64 x0, .func (.func 63) #[] #[]] W (fun e w' => e = .returned (.tuple #[.int .i64 (vplc x0 s.xs), .bool (vhas x0 s.xs)]) ∧ Below W.heap.size W w') from by
    have := vbsf_any x0 r W hr (by rw [hrx]; exact hS) (by rw [hrx]; exact hK) hkk (by rw [hrx]; exact hn)
    rw [hrx] at this ⊢
    exact this)
  have hple := vplc_le x0 s.xs
  have Hs := hid hs
  have Hgood := hid hs.each
  have hX0 : Blk (w.alloc (.cells #[.int .i64 x0, .int .i64 x1, .int .i64 x2] 52)) w.heap.size 52 #[.int .i64 x0, .int .i64 x1, .int .i64 x2] := Blk.new _ _ _
  have HX0 := hid hX0
  have Hxg := hid (right_good hr)
  clear hS hK hs hX0 hkk hv hr
  rcases (show vhas x0 s.xs = false ∨ vhas x0 s.xs = true by cases vhas x0 s.xs <;> simp) with hh | hh
  · rw [addV, if_neg (show ¬ vhas (⟨x0, x1, x2⟩ : M).node s.xs = true by rw [hh]; decide)]
    show Calls _ _ _ _ (VRes w (s.xs.take (vplc x0 s.xs) ++ ⟨x0, x1, x2⟩ :: s.xs.drop (vplc x0 s.xs)) true)
    generalize hp : vplc x0 s.xs = p at *
    have Hh := hid hh
    clear hh hp
    go_enter Tryd.func43, Tryd.ntmps43
    go_wp2_with fail
    refine (vclone_any s _ (Hs.out.stays (by (repeat (first | with_reducible exact Below.refl _ _ | with_reducible assumption | (with_reducible refine Below.drew ?_) | (with_reducible refine Below.manyDrew ?_ _) | ((with_reducible refine Below.alloc ?_ ?_ _); rotate_left; (focus (first | omega | (dsimp only; omega) | (simp; done) | (simp; omega)))) | ((with_reducible refine Below.setCell ?_ ?_ _); rotate_left; (focus (first | omega | (dsimp only; omega) | (simp; done) | (simp; omega)))) | ((with_reducible refine Below.step ?_ (by assumption) ?_); rotate_left; (focus (first | omega | (dsimp only; omega) | (simp; done) | (simp; omega)))))))) (by omega)).mono ?_
    rintro e w1 ⟨v, rfl, hOw1, hb1⟩
    have hz1 := hb1.size
    rw [World.size_alloc] at hz1 hOw1
    have hb1' : Below w.heap.size w w1 := (show Below w.heap.size w _ by (repeat (first | with_reducible exact Below.refl _ _ | with_reducible assumption | (with_reducible refine Below.drew ?_) | (with_reducible refine Below.manyDrew ?_ _) | ((with_reducible refine Below.alloc ?_ ?_ _); rotate_left; (focus (first | omega | (dsimp only; omega) | (simp; done) | (simp; omega)))) | ((with_reducible refine Below.setCell ?_ ?_ _); rotate_left; (focus (first | omega | (dsimp only; omega) | (simp; done) | (simp; omega)))) | ((with_reducible refine Below.step ?_ (by assumption) ?_); rotate_left; (focus (first | omega | (dsimp only; omega) | (simp; done) | (simp; omega))))))).trans (hb1.mono (by simp))
    obtain ⟨r, hv, hrx, hrA, _, _⟩ := MsAt.of_ow hOw1 Hgood.out
    have HOw1 := hid hOw1
    have Hb1 := hid hb1'
    have hX1 := HX0.out.belowS hb1
    have Hv := hid hv
    have Hrx := hid hrx
    have HX1 := hid hX1
    rw [hv]
    have k0 : w1.cell? ⟨w.heap.size, 0, none⟩ = some (.int .i64 x0) := hX1.cell 0
    clear hOw1 hb1' hX1 hb1 hv hrx
    go_wp2_with fail
    refine (HP.out r Hrx.out w1 hrA).mono ?_
    rw [Hh.out]
    rintro e w2 ⟨rfl, hb2⟩
    have hX2 := HX1.out.belowS hb2
    have d0 : w2.cell? ⟨w.heap.size, 0, none⟩ = some (.int .i64 x0) := hX2.cell 0
    have d1 : w2.cell? ⟨w.heap.size, 1, none⟩ = some (.int .i64 x1) := hX2.cell 1
    have d2 : w2.cell? ⟨w.heap.size, 2, none⟩ = some (.int .i64 x2) := hX2.cell 2
    have HOw2 := hid (HOw1.out.belowS hb2)
    have Hb2 := hid (Below.step Hb1.out hb2 (by omega))
    have hz2 := hb2.size
    clear hX2 hb2 k0
    go_wp2_with fail
    refine (Mins_any (w.heap.size + 1) (.slice r.A r.xs.length r.c) s.xs x0 x1 x2 Hxg.out w2.heap.size p _ ?_ (Blk.new w2 _ _) ?_ (by omega) (by omega) (by simp; omega)).mono ?_
    · rw [← Hv.out]; exact HOw2.out.alloc _
    · intro h; rw [← Hv.out] at h; have := (HOw2.out.lt h).2; omega
    rintro e w3 ⟨v3, rfl, hOw3, _, hF3⟩
    have hb3 : Below w.heap.size w w3 := (Hb2.out.alloc (by omega) _).trans (hF3.below0 (by simp; omega) (fun i hi => by rw [← Hv.out] at hi; have := HOw2.out.ge i hi; omega))
    have HOw3 := hid (hOw3.mono (base' := w.heap.size) (by omega))
    have Hb3 := hid hb3
    clear hOw3 hF3 hb3
    go_wp2_with fail
    go_ret2
    exact ⟨_, rfl, HOw3.out, Hb3.out⟩
  · have hpl : vplc x0 s.xs < s.xs.length := by
      unfold vhas at hh
      simp at hh
      exact hh.1
    rw [addV, if_pos (show vhas (⟨x0, x1, x2⟩ : M).node s.xs = true from hh)]
    show Calls _ _ _ _ (VRes w (if aboveB ⟨x0, x1, x2⟩ (s.xs.getD (vplc x0 s.xs) M.zero) = true then (s.xs.set (vplc x0 s.xs) ⟨x0, x1, x2⟩, true) else (s.xs, false)).1 (if aboveB ⟨x0, x1, x2⟩ (s.xs.getD (vplc x0 s.xs) M.zero) = true then (s.xs.set (vplc x0 s.xs) ⟨x0, x1, x2⟩, true) else (s.xs, false)).2)
    generalize hR : (if aboveB ⟨x0, x1, x2⟩ (s.xs.getD (vplc x0 s.xs) M.zero) = true then (s.xs.set (vplc x0 s.xs) ⟨x0, x1, x2⟩, true) else (s.xs, false)) = R
    have HRR := hid hR
    clear hR
    obtain ⟨L', ab⟩ := R
    have hyg := getD_get M.zero hpl
    have Hh := hid hh
    clear hh
    generalize vplc x0 s.xs = p at *
    generalize s.xs.getD p M.zero = y at *
    obtain ⟨y0, y1, y2⟩ := y
    have Hyg := hid hyg
    clear hyg
    have HA := hid (above_any x0 x1 x2 y0 y1 y2)
    generalize aboveB ⟨x0, x1, x2⟩ ⟨y0, y1, y2⟩ = bb at *
    go_enter Tryd.func43, Tryd.ntmps43
    go_wp2_with fail
    refine (vclone_any s _ (Hs.out.stays (by (repeat (first | with_reducible exact Below.refl _ _ | with_reducible assumption | (with_reducible refine Below.drew ?_) | (with_reducible refine Below.manyDrew ?_ _) | ((with_reducible refine Below.alloc ?_ ?_ _); rotate_left; (focus (first | omega | (dsimp only; omega) | (simp; done) | (simp; omega)))) | ((with_reducible refine Below.setCell ?_ ?_ _); rotate_left; (focus (first | omega | (dsimp only; omega) | (simp; done) | (simp; omega)))) | ((with_reducible refine Below.step ?_ (by assumption) ?_); rotate_left; (focus (first | omega | (dsimp only; omega) | (simp; done) | (simp; omega)))))))) (by omega)).mono ?_
    rintro e w1 ⟨v, rfl, hOw1, hb1⟩
    have hz1 := hb1.size
    rw [World.size_alloc] at hz1 hOw1
    have hb1' : Below w.heap.size w w1 := (show Below w.heap.size w _ by (repeat (first | with_reducible exact Below.refl _ _ | with_reducible assumption | (with_reducible refine Below.drew ?_) | (with_reducible refine Below.manyDrew ?_ _) | ((with_reducible refine Below.alloc ?_ ?_ _); rotate_left; (focus (first | omega | (dsimp only; omega) | (simp; done) | (simp; omega)))) | ((with_reducible refine Below.setCell ?_ ?_ _); rotate_left; (focus (first | omega | (dsimp only; omega) | (simp; done) | (simp; omega)))) | ((with_reducible refine Below.step ?_ (by assumption) ?_); rotate_left; (focus (first | omega | (dsimp only; omega) | (simp; done) | (simp; omega))))))).trans (hb1.mono (by simp))
    obtain ⟨r, hv, hrx, hrA, _, _⟩ := MsAt.of_ow hOw1 Hgood.out
    have HOw1 := hid hOw1
    have Hb1 := hid hb1'
    have hX1 := HX0.out.belowS hb1
    have Hv := hid hv
    have Hrx := hid hrx
    have HX1 := hid hX1
    rw [hv]
    have k0 : w1.cell? ⟨w.heap.size, 0, none⟩ = some (.int .i64 x0) := hX1.cell 0
    clear hOw1 hb1' hX1 hb1 hv hrx
    go_wp2_with fail
    refine (HP.out r Hrx.out w1 hrA).mono ?_
    rw [Hh.out]
    rintro e w2 ⟨rfl, hb2⟩
    have hX2 := HX1.out.belowS hb2
    have HX2 := hid hX2
    have HOw2 := hid (HOw1.out.belowS hb2)
    have Hb2 := hid (Below.step Hb1.out hb2 (by omega))
    have hz2 := hb2.size
    obtain ⟨g, off, c, hvg, hlc, hcm, hbg, hgl, hfo, hcells, hfz⟩ := HOw2.out.get (by omega)
    have hrA2 : r.A = some ⟨g, off, none⟩ ∧ r.c = c := by
      have := Hv.out
      rw [hvg] at this
      injection this with e1 _ e2
      exact ⟨e1.symm, e2.symm⟩
    obtain ⟨hA, rfl⟩ := hrA2
    have hrl : r.xs.length = s.xs.length := by rw [Hrx.out]
    rw [hA, hrl]
    have HOw3 := hid (show Ow M.cells 3 (w.heap.size + 1) 52 w2 (.slice (some ⟨g, off, none⟩) s.xs.length r.c) s.xs from by rw [← hvg]; exact HOw2.out)
    have j0 : w2.cell? ⟨g, off + p * 3, none⟩ = some (.int .i64 y0) := (hcells p hpl 0 (by decide)).trans (by rw [← Hyg.out]; rfl)
    have j1 : w2.cell? ⟨g, off + p * 3 + 1, none⟩ = some (.int .i64 y1) := (hcells p hpl 1 (by decide)).trans (by rw [← Hyg.out]; rfl)
    have j2 : w2.cell? ⟨g, off + p * 3 + 2, none⟩ = some (.int .i64 y2) := (hcells p hpl 2 (by decide)).trans (by rw [← Hyg.out]; rfl)
    have z0 : w2.frozen? ⟨g, off + p * 3, none⟩ = false := hfz _
    have z1 : w2.frozen? ⟨g, off + p * 3 + 1, none⟩ = false := hfz _
    have z2 : w2.frozen? ⟨g, off + p * 3 + 2, none⟩ = false := hfz _
    have d0 : w2.cell? ⟨w.heap.size, 0, none⟩ = some (.int .i64 x0) := hX2.cell 0
    have d1 : w2.cell? ⟨w.heap.size, 1, none⟩ = some (.int .i64 x1) := hX2.cell 1
    have d2 : w2.cell? ⟨w.heap.size, 2, none⟩ = some (.int .i64 x2) := hX2.cell 2
    have hw2 : w.heap.size < w2.heap.size := by omega
    have Hhyp := hid (show w.heap.size + 1 ≤ g ∧ g < w2.heap.size from ⟨hbg, hgl⟩)
    clear hX2 hb2 k0 hcells hfz hvg hfo hrA hA hrl HOw1 Hs HP HX0 HX1 hz1 Hb1
    go_upto_region 5 with fail
    go_cut [26] (fun t wx => t = .bool bb ∧ Below w2.heap.size w2 wx)
    case first =>
      go_region_law (first | (go_simp; go_at_call 41; refine (HA.out _).mono ?_; rintro e wj ⟨rfl, hbj⟩; obtain ⟨hcj, hfj⟩ := bcell hbj; have hzj := hbj.size; (try simp only [World.size_alloc] at hzj)))
      all_goals
        go_wp2_with fail
        go_meet
        exact ⟨rfl, by (repeat (first | with_reducible exact Below.refl _ _ | with_reducible assumption | (with_reducible refine Below.drew ?_) | (with_reducible refine Below.manyDrew ?_ _) | ((with_reducible refine Below.alloc ?_ ?_ _); rotate_left; (focus (first | omega | (dsimp only; omega) | (simp; done) | (simp; omega)))) | ((with_reducible refine Below.setCell ?_ ?_ _); rotate_left; (focus (first | omega | (dsimp only; omega) | (simp; done) | (simp; omega)))) | ((with_reducible refine Below.step ?_ (by assumption) ?_); rotate_left; (focus (first | omega | (dsimp only; omega) | (simp; done) | (simp; omega))))))⟩
    case rest =>
    obtain ⟨rfl, hb9⟩ := hcut
    have hgj : g < wc.heap.size := Nat.lt_of_lt_of_le hgl hb9.size
    have hwj : w2.heap.size ≤ wc.heap.size := hb9.size
    have Hbj := hid (Below.step Hb2.out hb9 (by omega))
    have q0 : wc.cell? ⟨g, off + p * 3, none⟩ = some (.int .i64 y0) := (hb9.cell (p := ⟨g, _, none⟩) hgl).trans j0
    have q1 : wc.cell? ⟨g, off + p * 3 + 1, none⟩ = some (.int .i64 y1) := (hb9.cell (p := ⟨g, _, none⟩) hgl).trans j1
    have q2 : wc.cell? ⟨g, off + p * 3 + 2, none⟩ = some (.int .i64 y2) := (hb9.cell (p := ⟨g, _, none⟩) hgl).trans j2
    have f0 : wc.frozen? ⟨g, off + p * 3, none⟩ = false := (hb9.frozen (p := ⟨g, _, none⟩) hgl).trans z0
    have f1 : wc.frozen? ⟨g, off + p * 3 + 1, none⟩ = false := (hb9.frozen (p := ⟨g, _, none⟩) hgl).trans z1
    have f2 : wc.frozen? ⟨g, off + p * 3 + 2, none⟩ = false := (hb9.frozen (p := ⟨g, _, none⟩) hgl).trans z2
    have hB9 := HX2.out.belowS hb9
    have e0 : wc.cell? ⟨w.heap.size, 0, none⟩ = some (.int .i64 x0) := hB9.cell 0
    have e1 : wc.cell? ⟨w.heap.size, 1, none⟩ = some (.int .i64 x1) := hB9.cell 1
    have e2 : wc.cell? ⟨w.heap.size, 2, none⟩ = some (.int .i64 x2) := hB9.cell 2
    have HFj := hid (show Fr (fun k => w2.heap.size ≤ k) w2 wc from Fr.ofB hb9)
    have HOw9 := hid (HOw3.out.belowS hb9)
    clear hb9 hB9 j0 j1 j2 z0 z1 z2 d0 d1 d2
    rcases bb with _ | _
    · have hRR := HRR.out
      rw [if_neg (by decide)] at hRR
      cases hRR
      go_wp2_with fail
      go_ret2
      exact ⟨_, rfl, HOw9.out.mono (by omega), Hbj.out⟩
    · have hRR := HRR.out
      rw [if_pos rfl] at hRR
      cases hRR
      go_wp2_with fail
      refine bodyPost_ret (v := .tuple #[.slice (some ⟨g, off, none⟩) s.xs.length r.c, .bool true]) ?_ rfl ?_
      · simp [results, Tryd.results43, go_sem]
      · exact vadded_fin HOw3.out hpl HFj.out Hbj.out

/-! ### view.Add -/
def addVR (l : List M) (m : M) : (List M × Bool) × Int := if chkV l = 0 then (if rightB m = true then (addV l m, 0) else (([], false), 1)) else (([], false), chkV l)
def VARes (w : World) (r : (List M × Bool) × Int) (e : Ending) (w' : World) : Prop :=
  ∃ v, e = .returned (.tuple #[v, .bool r.1.2, errV r.2]) ∧ Ow M.cells 3 w.heap.size 52 w' v r.1.1 ∧ Below w.heap.size w w'
set_option maxHeartbeats 4000000 in
theorem vadd_any (s : SlV M) (x0 x1 x2 : Int) (w : World) (hs : MsAt w s) :
    Calls Tryd.prog 22 #[.slice s.A s.xs.length s.c, .agg #[.int .i64 x0, .int .i64 x1, .int .i64 x2]] w (VARes w (addVR s.xs ⟨x0, x1, x2⟩)) := by
  have HC := hid (fun W (hW : Below w.heap.size w W) => vcheck_any s W (hs.stays hW))
  have HR := hid (right_any x0 x1 x2)
  have HB := hid (Blk.new w 52 #[.int .i64 x0, .int .i64 x1, .int .i64 x2])
  by_cases hc : chkV s.xs = 0
  · by_cases hr : rightB ⟨x0, x1, x2⟩ = true
    · rw [addVR, if_pos hc, if_pos hr]
      have HA := hid (fun W (hW : Below w.heap.size w W) => vadded_any s x0 x1 x2 W hr (hs.stays hW) hc)
      rw [hc, errV_zero] at HC
      rw [hr] at HR
      clear hc hr hs
      generalize addV s.xs ⟨x0, x1, x2⟩ = A at *
      obtain ⟨L, ab⟩ := A
      go_enter Tryd.func22, Tryd.ntmps22
      go_wp2_with fail
      refine (HC.out _ (by (repeat (first | with_reducible exact Below.refl _ _ | with_reducible assumption | (with_reducible refine Below.drew ?_) | (with_reducible refine Below.manyDrew ?_ _) | ((with_reducible refine Below.alloc ?_ ?_ _); rotate_left; (focus (first | omega | (dsimp only; omega) | (simp; done) | (simp; omega)))) | ((with_reducible refine Below.setCell ?_ ?_ _); rotate_left; (focus (first | omega | (dsimp only; omega) | (simp; done) | (simp; omega)))) | ((with_reducible refine Below.step ?_ (by assumption) ?_); rotate_left; (focus (first | omega | (dsimp only; omega) | (simp; done) | (simp; omega)))))))).mono ?_
      rintro e w1 ⟨rfl, hb1⟩
      have hX1 := HB.out.belowS hb1
      have HX1 := hid hX1
      have Hb1 := hid (Below.step (show Below w.heap.size w (w.alloc _) by (repeat (first | with_reducible exact Below.refl _ _ | with_reducible assumption | (with_reducible refine Below.drew ?_) | (with_reducible refine Below.manyDrew ?_ _) | ((with_reducible refine Below.alloc ?_ ?_ _); rotate_left; (focus (first | omega | (dsimp only; omega) | (simp; done) | (simp; omega)))) | ((with_reducible refine Below.setCell ?_ ?_ _); rotate_left; (focus (first | omega | (dsimp only; omega) | (simp; done) | (simp; omega)))) | ((with_reducible refine Below.step ?_ (by assumption) ?_); rotate_left; (focus (first | omega | (dsimp only; omega) | (simp; done) | (simp; omega))))))) hb1 (by simp))
      have hz1 := Hb1.out.size
      have d0 : w1.cell? ⟨w.heap.size, 0, none⟩ = some (.int .i64 x0) := hX1.cell 0
      have d1 : w1.cell? ⟨w.heap.size, 1, none⟩ = some (.int .i64 x1) := hX1.cell 1
      have d2 : w1.cell? ⟨w.heap.size, 2, none⟩ = some (.int .i64 x2) := hX1.cell 2
      clear hX1 hb1
      go_wp2_with fail
      refine (HR.out w1).mono ?_
      rintro e w2 ⟨rfl, hb2⟩
      have hX2 := HX1.out.belowS hb2
      have Hb2 := hid (Below.step Hb1.out hb2 hz1)
      have hz2 := Hb2.out.size
      clear d0 d1 d2
      have d0 : w2.cell? ⟨w.heap.size, 0, none⟩ = some (.int .i64 x0) := hX2.cell 0
      have d1 : w2.cell? ⟨w.heap.size, 1, none⟩ = some (.int .i64 x1) := hX2.cell 1
      have d2 : w2.cell? ⟨w.heap.size, 2, none⟩ = some (.int .i64 x2) := hX2.cell 2
      clear hX2 hb2
      go_wp2_with fail
      refine (HA.out w2 Hb2.out).mono ?_
      rintro e w3 ⟨v3, rfl, hOw, hb3⟩
      have HOw := hid (hOw.mono (base' := w.heap.size) hz2)
      have Hb3 := hid (Below.step Hb2.out hb3 hz2)
      clear hOw hb3
      go_wp2_with fail
      go_ret3
      exact ⟨_, rfl, HOw.out, Hb3.out⟩
    · rw [addVR, if_pos hc, if_neg hr]
      have hr' : rightB ⟨x0, x1, x2⟩ = false := by simpa using hr
      rw [hc, errV_zero] at HC
      rw [hr'] at HR
      clear hc hr hr' hs
      go_enter Tryd.func22, Tryd.ntmps22
      go_wp2_with fail
      refine (HC.out _ (by (repeat (first | with_reducible exact Below.refl _ _ | with_reducible assumption | (with_reducible refine Below.drew ?_) | (with_reducible refine Below.manyDrew ?_ _) | ((with_reducible refine Below.alloc ?_ ?_ _); rotate_left; (focus (first | omega | (dsimp only; omega) | (simp; done) | (simp; omega)))) | ((with_reducible refine Below.setCell ?_ ?_ _); rotate_left; (focus (first | omega | (dsimp only; omega) | (simp; done) | (simp; omega)))) | ((with_reducible refine Below.step ?_ (by assumption) ?_); rotate_left; (focus (first | omega | (dsimp only; omega) | (simp; done) | (simp; omega)))))))).mono ?_
      rintro e w1 ⟨rfl, hb1⟩
      have hX1 := HB.out.belowS hb1
      have Hb1 := hid (Below.step (show Below w.heap.size w (w.alloc _) by (repeat (first | with_reducible exact Below.refl _ _ | with_reducible assumption | (with_reducible refine Below.drew ?_) | (with_reducible refine Below.manyDrew ?_ _) | ((with_reducible refine Below.alloc ?_ ?_ _); rotate_left; (focus (first | omega | (dsimp only; omega) | (simp; done) | (simp; omega)))) | ((with_reducible refine Below.setCell ?_ ?_ _); rotate_left; (focus (first | omega | (dsimp only; omega) | (simp; done) | (simp; omega)))) | ((with_reducible refine Below.step ?_ (by assumption) ?_); rotate_left; (focus (first | omega | (dsimp only; omega) | (simp; done) | (simp; omega))))))) hb1 (by simp))
      have hz1 := Hb1.out.size
      have d0 : w1.cell? ⟨w.heap.size, 0, none⟩ = some (.int .i64 x0) := hX1.cell 0
      have d1 : w1.cell? ⟨w.heap.size, 1, none⟩ = some (.int .i64 x1) := hX1.cell 1
      have d2 : w1.cell? ⟨w.heap.size, 2, none⟩ = some (.int .i64 x2) := hX1.cell 2
      clear hX1 hb1
      go_wp2_with fail
      refine (HR.out w1).mono ?_
      rintro e w2 ⟨rfl, hb2⟩
      have Hb2 := hid (Below.step Hb1.out hb2 hz1)
      clear d0 d1 d2 hb2
      go_wp2_with fail
      go_ret3
      exact ⟨_, rfl, Ow.nil _ _ _ _ _, Hb2.out⟩
  · rw [addVR, if_neg hc]
    have Hen := hid (errV_ne hc)
    generalize chkV s.xs = en at *
    clear hc hs
    go_enter Tryd.func22, Tryd.ntmps22
    go_wp2_with fail
    refine (HC.out _ (by (repeat (first | with_reducible exact Below.refl _ _ | with_reducible assumption | (with_reducible refine Below.drew ?_) | (with_reducible refine Below.manyDrew ?_ _) | ((with_reducible refine Below.alloc ?_ ?_ _); rotate_left; (focus (first | omega | (dsimp only; omega) | (simp; done) | (simp; omega)))) | ((with_reducible refine Below.setCell ?_ ?_ _); rotate_left; (focus (first | omega | (dsimp only; omega) | (simp; done) | (simp; omega)))) | ((with_reducible refine Below.step ?_ (by assumption) ?_); rotate_left; (focus (first | omega | (dsimp only; omega) | (simp; done) | (simp; omega)))))))).mono ?_
    rw [Hen.out]
    rintro e w1 ⟨rfl, hb1⟩
    have Hb1 := hid (Below.step (show Below w.heap.size w (w.alloc _) by (repeat (first | with_reducible exact Below.refl _ _ | with_reducible assumption | (with_reducible refine Below.drew ?_) | (with_reducible refine Below.manyDrew ?_ _) | ((with_reducible refine Below.alloc ?_ ?_ _); rotate_left; (focus (first | omega | (dsimp only; omega) | (simp; done) | (simp; omega)))) | ((with_reducible refine Below.setCell ?_ ?_ _); rotate_left; (focus (first | omega | (dsimp only; omega) | (simp; done) | (simp; omega)))) | ((with_reducible refine Below.step ?_ (by assumption) ?_); rotate_left; (focus (first | omega | (dsimp only; omega) | (simp; done) | (simp; omega))))))) hb1 (by simp))
    clear hb1
    go_wp2_with fail
    refine bodyPost_ret (v := .tuple #[.slice none 0 0, .bool false, .iface 86 (.int .i64 en)]) ?_ rfl ⟨_, by rw [Hen.out], Ow.nil _ _ _ _ _, Hb1.out⟩
    simp [results, Tryd.results22, go_sem]
end Go.Proofs.YtgamocljdbffpaaDoor
