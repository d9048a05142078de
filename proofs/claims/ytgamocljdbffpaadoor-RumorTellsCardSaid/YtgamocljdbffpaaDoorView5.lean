/-
  CONTRACT: view.Answer. CONDITIONS: none.
-/
import Derived.Test.YtgamocljdbffpaaDoorView4
namespace Go.Proofs.YtgamocljdbffpaaDoor
open Go.RowKit
open Go.ChangeShapes Go.WideShapes Go.ChangeAt

set_option maxHeartbeats 8000000 in
set_option maxRecDepth 100000 in
theorem vanswer_any (s : SlV M) (n : Int) (w : World) (hs : MsAt w s) :
    Calls Tryd.prog 25 #[.slice s.A s.xs.length s.c, .int .i64 n] w (VBRes w (answerR s.xs n)) := by
  have HC := hid (fun W (hW : Below w.heap.size w W) => vcheck_any s W (hs.stays hW))
  have HS := hid (fun W (hW : Below w.heap.size w W) => hs.stays hW)
  have HB := hid (Blk.new w 3 #[.int .i64 n])
  have Hgd := hid hs.each
  generalize hR : answerR s.xs n = R
  unfold answerR at hR
  clear hs
  by_cases hc : chkV s.xs = 0
  · rw [if_pos hc] at hR
    obtain ⟨hS, _, hn6⟩ := vval_facts hc
    have Hrt := hid (vval_iff.1 hc).2
    rw [hc, errV_zero] at HC
    clear hc
    rcases (show nodeB n = false ∨ nodeB n = true by cases nodeB n <;> simp) with hb | hb
    · rw [hb, if_neg (by decide)] at hR
      subst hR
      have Hb := hid hb
      clear hb hS
      go_enter Tryd.func25, Tryd.ntmps25
      go_wp2_with fail
      refine (HC.out _ (by (repeat (first | with_reducible exact Below.refl _ _ | with_reducible assumption | (with_reducible refine Below.drew ?_) | (with_reducible refine Below.manyDrew ?_ _) | ((with_reducible refine Below.alloc ?_ ?_ _); rotate_left; (focus (first | omega | (dsimp only; omega) | (simp; done) | (simp; omega)))) | ((with_reducible refine Below.setCell ?_ ?_ _); rotate_left; (focus (first | omega | (dsimp only; omega) | (simp; done) | (simp; omega)))) | ((with_reducible refine Below.step ?_ (by assumption) ?_); rotate_left; (focus (first | omega | (dsimp only; omega) | (simp; done) | (simp; omega)))))))).mono ?_
      rintro e w1 ⟨rfl, hb1⟩
      have hX1 := HB.out.belowS hb1
      have Hb1 := hid (Below.step (show Below w.heap.size w (w.alloc _) by (repeat (first | with_reducible exact Below.refl _ _ | with_reducible assumption | (with_reducible refine Below.drew ?_) | (with_reducible refine Below.manyDrew ?_ _) | ((with_reducible refine Below.alloc ?_ ?_ _); rotate_left; (focus (first | omega | (dsimp only; omega) | (simp; done) | (simp; omega)))) | ((with_reducible refine Below.setCell ?_ ?_ _); rotate_left; (focus (first | omega | (dsimp only; omega) | (simp; done) | (simp; omega)))) | ((with_reducible refine Below.step ?_ (by assumption) ?_); rotate_left; (focus (first | omega | (dsimp only; omega) | (simp; done) | (simp; omega))))))) hb1 (by simp))
      have d0 : w1.cell? ⟨w.heap.size, 0, none⟩ = some (.int .i64 n) := hX1.cell 0
      clear hX1 hb1
      go_wp2_with ((go_at_call 45; refine (node_any _ _).mono ?_; rintro e w' ⟨rfl, rfl⟩); rw [Hb.out])
      go_ret2
      exact ⟨_, rfl, Ow.nil _ _ _ _ _, Hb1.out⟩
    · rw [if_pos hb] at hR
      have Hb := hid hb
      have HI := hid (fun W (hW : Below w.heap.size w W) (h : W.cell? ⟨w.heap.size, 0, none⟩ = some (.int .i64 n)) (hl : w.heap.size < W.heap.size) => vindex_any s n w.heap.size W (HS.out W hW) hS hn6 h hl)
      clear hb hS
      rcases (show vhas n s.xs = false ∨ vhas n s.xs = true by cases vhas n s.xs <;> simp) with hv | hv
      · rw [hv, if_neg (by decide)] at hR
        subst hR
        have hix : idxV s.xs n = -1 := by rw [idxV, if_neg (by rw [hv]; decide)]
        rw [hix] at HI
        clear hix hv
        go_enter Tryd.func25, Tryd.ntmps25
        go_wp2_with fail
        refine (HC.out _ (by (repeat (first | with_reducible exact Below.refl _ _ | with_reducible assumption | (with_reducible refine Below.drew ?_) | (with_reducible refine Below.manyDrew ?_ _) | ((with_reducible refine Below.alloc ?_ ?_ _); rotate_left; (focus (first | omega | (dsimp only; omega) | (simp; done) | (simp; omega)))) | ((with_reducible refine Below.setCell ?_ ?_ _); rotate_left; (focus (first | omega | (dsimp only; omega) | (simp; done) | (simp; omega)))) | ((with_reducible refine Below.step ?_ (by assumption) ?_); rotate_left; (focus (first | omega | (dsimp only; omega) | (simp; done) | (simp; omega)))))))).mono ?_
        rintro e w1 ⟨rfl, hb1⟩
        have hX1 := HB.out.belowS hb1
        have Hb1 := hid (Below.step (show Below w.heap.size w (w.alloc _) by (repeat (first | with_reducible exact Below.refl _ _ | with_reducible assumption | (with_reducible refine Below.drew ?_) | (with_reducible refine Below.manyDrew ?_ _) | ((with_reducible refine Below.alloc ?_ ?_ _); rotate_left; (focus (first | omega | (dsimp only; omega) | (simp; done) | (simp; omega)))) | ((with_reducible refine Below.setCell ?_ ?_ _); rotate_left; (focus (first | omega | (dsimp only; omega) | (simp; done) | (simp; omega)))) | ((with_reducible refine Below.step ?_ (by assumption) ?_); rotate_left; (focus (first | omega | (dsimp only; omega) | (simp; done) | (simp; omega))))))) hb1 (by simp))
        have hz1 := Hb1.out.size
        have d0 : w1.cell? ⟨w.heap.size, 0, none⟩ = some (.int .i64 n) := hX1.cell 0
        have hl1 := hX1.lt
        clear hX1 hb1
        go_wp2_with ((go_at_call 45; refine (node_any _ _).mono ?_; rintro e w' ⟨rfl, rfl⟩); rw [Hb.out])
        refine (HI.out w1 Hb1.out d0 hl1).mono ?_
        rintro e w2 ⟨rfl, hb2⟩
        have Hb2 := hid (Below.step Hb1.out hb2 hz1)
        clear hb2
        go_wp2_with fail
        go_ret2
        exact ⟨_, rfl, Ow.nil _ _ _ _ _, Hb2.out⟩
      · rw [if_pos hv] at hR
        have hpl : vplc n s.xs < s.xs.length := by
          unfold vhas at hv
          simp at hv
          exact hv.1
        have hix : idxV s.xs n = (vplc n s.xs : Int) := by rw [idxV, if_pos hv]
        rw [hix] at HI
        have hyg := getD_get M.zero hpl
        clear hix hv
        generalize vplc n s.xs = p at *
        generalize s.xs.getD p M.zero = y at *
        obtain ⟨y0, y1, y2⟩ := y
        have Hyg := hid hyg
        clear hyg
        simp only at hR
        have HR := hid hR
        clear hR
        go_enter Tryd.func25, Tryd.ntmps25
        go_wp2_with fail
        refine (HC.out _ (by (repeat (first | with_reducible exact Below.refl _ _ | with_reducible assumption | (with_reducible refine Below.drew ?_) | (with_reducible refine Below.manyDrew ?_ _) | ((with_reducible refine Below.alloc ?_ ?_ _); rotate_left; (focus (first | omega | (dsimp only; omega) | (simp; done) | (simp; omega)))) | ((with_reducible refine Below.setCell ?_ ?_ _); rotate_left; (focus (first | omega | (dsimp only; omega) | (simp; done) | (simp; omega)))) | ((with_reducible refine Below.step ?_ (by assumption) ?_); rotate_left; (focus (first | omega | (dsimp only; omega) | (simp; done) | (simp; omega)))))))).mono ?_
        rintro e w1 ⟨rfl, hb1⟩
        have hX1 := HB.out.belowS hb1
        have HX1 := hid hX1
        have Hb1 := hid (Below.step (show Below w.heap.size w (w.alloc _) by (repeat (first | with_reducible exact Below.refl _ _ | with_reducible assumption | (with_reducible refine Below.drew ?_) | (with_reducible refine Below.manyDrew ?_ _) | ((with_reducible refine Below.alloc ?_ ?_ _); rotate_left; (focus (first | omega | (dsimp only; omega) | (simp; done) | (simp; omega)))) | ((with_reducible refine Below.setCell ?_ ?_ _); rotate_left; (focus (first | omega | (dsimp only; omega) | (simp; done) | (simp; omega)))) | ((with_reducible refine Below.step ?_ (by assumption) ?_); rotate_left; (focus (first | omega | (dsimp only; omega) | (simp; done) | (simp; omega))))))) hb1 (by simp))
        have hz1 := Hb1.out.size
        have d0 : w1.cell? ⟨w.heap.size, 0, none⟩ = some (.int .i64 n) := hX1.cell 0
        have hl1 := hX1.lt
        clear hX1 hb1
        go_wp2_with ((go_at_call 45; refine (node_any _ _).mono ?_; rintro e w' ⟨rfl, rfl⟩); rw [Hb.out])
        refine (HI.out w1 Hb1.out d0 hl1).mono ?_
        rintro e w2 ⟨rfl, hb2⟩
        have hX2 := HX1.out.belowS hb2
        have HX2 := hid hX2
        have Hb2 := hid (Below.step Hb1.out hb2 hz1)
        have hz2 := Hb2.out.size
        clear hb2 hX2 d0
        go_wp2_with fail
        refine (vclone_any s w2 (HS.out _ Hb2.out) (by omega)).mono ?_
        rintro e w3 ⟨v3, rfl, hOw, hb3⟩
        have hX3 := HX2.out.belowS hb3
        have Hb3 := hid (Below.step Hb2.out hb3 hz2)
        have hz3 := Hb3.out.size
        obtain ⟨g, off, c, rfl, hlc, hcm, hbg, hgl, hfo, hcells, hfz⟩ := hOw.get (by omega)
        have HOw := hid (hOw.mono (base' := w.heap.size) hz2)
        have j0 : w3.cell? ⟨g, off + p * 3, none⟩ = some (.int .i64 y0) := (hcells p hpl 0 (by decide)).trans (by rw [← Hyg.out]; rfl)
        have j1 : w3.cell? ⟨g, off + p * 3 + 1, none⟩ = some (.int .i64 y1) := (hcells p hpl 1 (by decide)).trans (by rw [← Hyg.out]; rfl)
        have j2 : w3.cell? ⟨g, off + p * 3 + 2, none⟩ = some (.int .i64 y2) := (hcells p hpl 2 (by decide)).trans (by rw [← Hyg.out]; rfl)
        have z0 : w3.frozen? ⟨g, off + p * 3, none⟩ = false := hfz _
        have z1 : w3.frozen? ⟨g, off + p * 3 + 1, none⟩ = false := hfz _
        have z2 : w3.frozen? ⟨g, off + p * 3 + 2, none⟩ = false := hfz _
        have d0 : w3.cell? ⟨w.heap.size, 0, none⟩ = some (.int .i64 n) := hX3.cell 0
        have hl3 := hX3.lt
        have hgw : w.heap.size ≤ g := by omega
        clear hb3 hX3 hOw hcells hfz hfo
        by_cases h0 : y2 = 0
        · have hRR := HR.out
          rw [if_pos h0] at hRR
          subst hRR
          have h0b : (y2 == 0) = true := by rw [beq_iff_eq]; exact h0
          clear h0
          go_wp2_with fail
          go_ret2
          exact ⟨_, rfl, HOw.out, Hb3.out⟩
        · have hRR := HR.out
          rw [if_neg h0] at hRR
          have h0b : (y2 == 0) = false := by rw [beq_eq_false_iff_ne]; exact h0
          clear h0
          by_cases h1 : y1 = 100
          · rw [if_pos h1] at hRR
            subst hRR
            have h1b : (y1 == 100) = true := by rw [beq_iff_eq]; exact h1
            clear h1
            go_wp2_with fail
            go_ret2
            exact ⟨_, rfl, Ow.nil _ _ _ _ _, Hb3.out⟩
          · rw [if_neg h1] at hRR
            subst hRR
            have h1b : (y1 == 100) = false := by rw [beq_eq_false_iff_ne]; exact h1
            have hrt := rightB_true.1 (Hrt.out _ (show (⟨y0, y1, y2⟩ : M) ∈ s.xs by rw [Hyg.out]; exact List.getElem_mem hpl))
            simp only at hrt
            obtain ⟨-, ⟨hy1a, hy1b⟩, -⟩ := hrt
            clear h1
            go_upto_region 14 with fail
            go_cut [] (fun wx => Ow M.cells 3 w.heap.size 52 wx (.slice (some ⟨g, off, none⟩) s.xs.length c) (s.xs.set p ⟨n, y1 + 1, 0⟩) ∧ Below w.heap.size w wx)
            case first =>
              go_region_law (fail)
              all_goals
                go_wp2_with fail
                go_meet
                have hw : IntKind.i64.wrap (y1 + 1) = y1 + 1 := by rw [IntKind.wrap_i64]; omega
                rw [hw]
                refine ⟨Ow.drew ?_, ?_⟩
                · exact HOw.out.set M.cells_length hpl (⟨n, y1 + 1, 0⟩ : M)
                · have hb3 := Hb3.out
                  (repeat (first | with_reducible exact Below.refl _ _ | with_reducible assumption | (with_reducible refine Below.drew ?_) | (with_reducible refine Below.manyDrew ?_ _) | ((with_reducible refine Below.alloc ?_ ?_ _); rotate_left; (focus (first | omega | (dsimp only; omega) | (simp; done) | (simp; omega)))) | ((with_reducible refine Below.setCell ?_ ?_ _); rotate_left; (focus (first | omega | (dsimp only; omega) | (simp; done) | (simp; omega)))) | ((with_reducible refine Below.step ?_ (by assumption) ?_); rotate_left; (focus (first | omega | (dsimp only; omega) | (simp; done) | (simp; omega))))))
            case rest =>
            obtain ⟨hOw4, hb4⟩ := hcut
            have HOw4 := hid hOw4
            have Hb4 := hid hb4
            clear hOw4 hb4
            go_wp2_with fail
            refine bodyPost_ret (v := .tuple #[.slice (some ⟨g, off, none⟩) s.xs.length c, .nilIface]) ?_ rfl ⟨_, rfl, HOw4.out, Hb4.out⟩
            simp [results, Tryd.results25, go_sem]
  · rw [if_neg hc] at hR
    subst hR
    have Hen := hid (errV_ne hc)
    generalize chkV s.xs = en at *
    clear hc
    go_enter Tryd.func25, Tryd.ntmps25
    go_wp2_with fail
    refine (HC.out _ (by (repeat (first | with_reducible exact Below.refl _ _ | with_reducible assumption | (with_reducible refine Below.drew ?_) | (with_reducible refine Below.manyDrew ?_ _) | ((with_reducible refine Below.alloc ?_ ?_ _); rotate_left; (focus (first | omega | (dsimp only; omega) | (simp; done) | (simp; omega)))) | ((with_reducible refine Below.setCell ?_ ?_ _); rotate_left; (focus (first | omega | (dsimp only; omega) | (simp; done) | (simp; omega)))) | ((with_reducible refine Below.step ?_ (by assumption) ?_); rotate_left; (focus (first | omega | (dsimp only; omega) | (simp; done) | (simp; omega)))))))).mono ?_
    rw [Hen.out]
    rintro e w1 ⟨rfl, hb1⟩
    have Hb1 := hid (Below.step (show Below w.heap.size w (w.alloc _) by (repeat (first | with_reducible exact Below.refl _ _ | with_reducible assumption | (with_reducible refine Below.drew ?_) | (with_reducible refine Below.manyDrew ?_ _) | ((with_reducible refine Below.alloc ?_ ?_ _); rotate_left; (focus (first | omega | (dsimp only; omega) | (simp; done) | (simp; omega)))) | ((with_reducible refine Below.setCell ?_ ?_ _); rotate_left; (focus (first | omega | (dsimp only; omega) | (simp; done) | (simp; omega)))) | ((with_reducible refine Below.step ?_ (by assumption) ?_); rotate_left; (focus (first | omega | (dsimp only; omega) | (simp; done) | (simp; omega))))))) hb1 (by simp))
    clear hb1
    go_wp2_with fail
    refine bodyPost_ret (v := .tuple #[.slice none 0 0, .iface 86 (.int .i64 en)]) ?_ rfl ⟨_, by rw [Hen.out], Ow.nil _ _ _ _ _, Hb1.out⟩
    simp [results, Tryd.results25, go_sem]
end Go.Proofs.YtgamocljdbffpaaDoor
