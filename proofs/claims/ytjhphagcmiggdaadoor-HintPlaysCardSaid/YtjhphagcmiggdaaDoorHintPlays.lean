/-
  PROVED HERE: merelaw2.HintPlays returns true: any hints that come, and are taken, are refused, there and lost as the document says. CONDITIONS: errors.errorType as the program's text lays it (tied by the card).
-/
import Derived.Test.YtjhphagcmiggdaaDoorRHint
import Derived.Test.YtjhphagcmiggdaaDoorDoor
import Derived.Deep.DeepCutAuto
import Derived.Deep.CutBlock
import Derived.Deep.RegionLaw
namespace Go.Proofs.YtjhphagcmiggdaaDoor
open Go.RowKit
open Go.ChangeShapes Go.WideShapes Go.ChangeAt

/-- the program's hints and the reference's, alike and apart -/
def Twin (base h b : Nat) (w : World) (l : List H) (lost : Int) : Prop :=
  ∃ v v', HintsO base w h v l lost ∧ RHintsO base w b v' l lost ∧ (∀ g, foot v = some g → foot v' ≠ some g) ∧ foot v ≠ some b ∧ foot v' ≠ some h ∧ h ≠ b ∧ (∀ y ∈ l, y.good) ∧ l.length ≤ 10 ∧ 0 ≤ lost
theorem Twin.belowS {base h b : Nat} {w w' : World} {l : List H} {lost : Int} (t : Twin base h b w l lost) (hb : Below w.heap.size w w') : Twin base h b w' l lost := by
  obtain ⟨v, v', h1, h2, r⟩ := t
  exact ⟨v, v', h1.belowS hb, h2.belowS hb, r⟩
theorem addN_le (l : List H) (lost : Int) (x : H) : lost ≤ addN l lost x ∧ addN l lost x ≤ lost + 1 := by
  unfold addN
  split
  · split
    · omega
    · split <;> omega
  · omega
theorem takeN_le (n : Int) (l : List H) (h : l.length ≤ 10) : (leftL n l).length ≤ 10 :=
  Nat.le_trans (List.length_filter_le _ _) h
set_option maxHeartbeats 16000000 in
set_option maxRecDepth 100000 in
theorem hintPlays_any (st : SlV (SlV Int)) (w : World) (hst : IntssAt w st) (hgl : Gl w) :
    Calls Tryd.prog 3 #[.slice st.A st.xs.length st.c] w fun e w' => e = .returned (.bool true) ∧ Below w.heap.size w w' := by
  have hg0 := hgl.lt
  have hlen := hst.len
  unfold maxLen at hlen
  go_enter Tryd.func3, Tryd.ntmps3
  go_wp2_with fail
  refine (hnew_any _).mono ?_
  rintro e w1 ⟨rfl, hO1, hb1⟩
  have hz1 := hb1.size
  have hl1 := hO1.1.lt
  have hne1 : w.heap.size ≠ w1.heap.size := by omega
  have hbel1 : Below w.heap.size w (w1.alloc (.cells #[.slice none 0 0, .int .i64 0] 28)) := hb1.alloc (by omega) _
  have hT1 : Twin w.heap.size w.heap.size w1.heap.size (w1.alloc (.cells #[.slice none 0 0, .int .i64 0] 28)) [] 0 :=
    ⟨_, _, hO1.belowS (by (repeat (first | with_reducible exact Below.refl _ _ | with_reducible assumption | (with_reducible refine Below.drew ?_) | (with_reducible refine Below.manyDrew ?_ _) | ((with_reducible refine Below.alloc ?_ ?_ _); rotate_left; (focus (first | omega | (dsimp only; omega) | (simp; done) | (simp; omega)))) | ((with_reducible refine Below.setCell ?_ ?_ _); rotate_left; (focus (first | omega | (dsimp only; omega) | (simp; done) | (simp; omega)))) | ((with_reducible refine Below.step ?_ (by assumption) ?_); rotate_left; (focus (first | omega | (dsimp only; omega) | (simp; done) | (simp; omega))))))), ⟨Blk.new _ _ _, Ow.nil _ _ _ _ _, (fun h => by cases h), hz1⟩, (fun g h => by cases h), (fun h => by cases h), (fun h => by cases h), hne1, by simp, by simp, Int.le_refl _⟩
  clear hO1 hb1
  go_wp2_with fail
  go_loopw [5] (fun i wr => ∃ (n : Nat) (l : List H) (lost : Int), n ≤ 120 ∧ i = .int .i64 n ∧ lost ≤ n ∧ Twin w.heap.size w.heap.size w1.heap.size wr l lost ∧ Below w.heap.size w wr)
    (fun i _ => 120 - (intOf i).toNat)
  case atStart => exact ⟨0, [], 0, by omega, rfl, by omega, hT1, hbel1⟩
  case round =>
    obtain ⟨n, l, lost, hn, rfl, hln, hT, hbr⟩ := hrel
    clear hT1 hbel1
    by_cases hn1 : n < st.xs.length
    · by_cases hn2 : n < 120
      · obtain ⟨b, off, hA, hb, hcells⟩ := hst.row (by omega)
        have hcell := hcells n hn1
        have hin := hst.each n hn1
        rw [← hbr.cell (p := ⟨b, off + n, none⟩) hb] at hcell
        have HA := hid hA
        rw [hA]
        generalize hrw : st.xs[n] = rw_ at *
        clear hcells hA
        obtain ⟨wo, rfl⟩ : ∃ wo : World, wo = wr := ⟨_, rfl⟩
        have hzr := hbr.size
        have hVlt : w.heap.size < wo.heap.size := by obtain ⟨_, _, h, _⟩ := hT; exact h.1.lt
        have hVlt1 : w1.heap.size < wo.heap.size := by obtain ⟨_, _, _, h, _⟩ := hT; exact h.1.lt
        go_upto_block 2 with fail
        go_cut [] (fun wx => ∃ vs : List Int, vs.length = 4 ∧ Blk wx wo.heap.size 29 (ints vs) ∧ Fr (fun x => x = wo.heap.size) (wo.alloc (.cells (ints [0, 0, 0, 0]) 29)) wx)
        case first =>
          have hV0 : Blk (wo.alloc (.cells (ints [0, 0, 0, 0]) 29)) wo.heap.size 29 (ints [0, 0, 0, 0]) := Blk.new _ _ _
          go_wp2_with fail
          go_loopw [7] (fun j w2 => ∃ (m : Nat) (vs : List Int), m ≤ 4 ∧ m ≤ rw_.xs.length ∧ j = .int .i64 m ∧ vs.length = 4 ∧ Blk w2 wo.heap.size 29 (ints vs) ∧ Fr (fun x => x = wo.heap.size) (wo.alloc (.cells (ints [0, 0, 0, 0]) 29)) w2)
            (fun j _ => 4 - (intOf j).toNat)
          case atStart => exact ⟨0, [0, 0, 0, 0], by omega, by omega, rfl, rfl, hV0, Fr.refl _ _⟩
          case round =>
            obtain ⟨m, vs, hm3, hml, rfl, hvl, hVb, hVf⟩ := hrel
            have hcell2 := (hVf.cell (p := ⟨b, off + n, none⟩) (by simp; omega) (by simp; omega)).trans ((World.cell?_alloc_lt wo _ ⟨b, off + n, none⟩ (by simp; omega)).trans hcell)
            by_cases hm1 : m < rw_.xs.length
            · by_cases hm2 : m < 4
              · obtain ⟨b2, off2, hA2, hb2, hcells2⟩ := hin.row (by omega)
                have hx := hcells2 m hm1
                have hx2 := (hVf.cell (p := ⟨b2, off2 + m, none⟩) (by simp; omega) (by simp; omega)).trans ((World.cell?_alloc_lt wo _ ⟨b2, off2 + m, none⟩ (by simp; omega)).trans ((hbr.cell (p := ⟨b2, off2 + m, none⟩) hb2).trans hx))
                rw [hA2] at hcell2
                generalize rw_.xs.getD m 0 = x at *
                have hv : _ = some (Value.int .i64 (vs.getD m 0)) := (hVb.cell m).trans (ints_get vs m (by omega))
                have hvf := hVb.frozen m
                have hVb' := hVb.put m (.int .i64 x)
                rw [ints_set] at hVb'
                have hVf' := Fr.setCell (S := fun x => x = wo.heap.size) hVf (p := ⟨wo.heap.size, m, none⟩) (.inl rfl) (.int .i64 x)
                have HV := hid (And.intro hVb' hVf')
                clear hcells2 hA2 hx hVb' hVf'
                go_wp2_with fail
                go_roundw
                case rel => exact ⟨m + 1, _, by omega, by omega, by go_num, by simpa using hvl, HV.out.1, HV.out.2⟩
                case measure => simp [intOf]; omega
              · go_wp2_with fail
                go_meet
                exact ⟨vs, hvl, hVb, hVf⟩
            · go_wp2_with fail
              go_meet
              exact ⟨vs, hvl, hVb, hVf⟩
        case rest =>
          obtain ⟨vs, hvl, hVb, hVf⟩ := hcut
          obtain ⟨x0, x1, x2, x3, rfl⟩ : ∃ x0 x1 x2 x3, vs = [x0, x1, x2, x3] := by
            match vs, hvl with
            | [x0, x1, x2, x3], _ => exact ⟨x0, x1, x2, x3, rfl⟩
          have cv0 : wc.cell? ⟨wo.heap.size, 0, none⟩ = some (.int .i64 x0) := hVb.cell 0
          have cv1 : wc.cell? ⟨wo.heap.size, 1, none⟩ = some (.int .i64 x1) := hVb.cell 1
          have cv2 : wc.cell? ⟨wo.heap.size, 2, none⟩ = some (.int .i64 x2) := hVb.cell 2
          have cv3 : wc.cell? ⟨wo.heap.size, 3, none⟩ = some (.int .i64 x3) := hVb.cell 3
          have hbo : Below wo.heap.size wo wc := ((Below.refl _ _).alloc (Nat.le_refl _) _).trans (hVf.below (by simp) (fun i hi e => by omega))
          have hTc := hT.belowS hbo
          have hbc : Below w.heap.size w wc := Below.step hbr hbo (by omega)
          have hVc := hVb.lt
          obtain ⟨wd, rfl⟩ : ∃ wd : World, wd = wc := ⟨_, rfl⟩
          have Hbr := hid hbr
          have Hbc := hid hbc
          clear hVf hcell hin hT hbr hbo hbc hVb
          go_upto_if 52 with fail
          go_cut [8] (fun t wx => t = .bool true ∧ ∃ (l' : List H) (lost' : Int), lost' ≤ lost + 1 ∧ Twin w.heap.size w.heap.size w1.heap.size wx l' lost' ∧ Below w.heap.size w wx)
          case first =>
            obtain ⟨v, v', hO, hR, hd, hvb, hvh, hhb, hg, hl10, hlo⟩ := hTc
            have hlo2 : lost ≤ 1000000 := by omega
            have hgd := Gl.belowS hgl Hbc.out
            have Hd := hid hd
            have HO := hid hO
            have HR := hid hR
            have Hvb := hid hvb
            have Hvh := hid hvh
            have hhl := hO.1.lt
            have hbl := hR.1.lt
            have hfv : ∀ g, foot v = some g → g < wd.heap.size := fun g e => (hO.2.1.lt e).2
            have hfv' : ∀ g, foot v' = some g → g < wd.heap.size := fun g e => (hR.2.1.lt e).2
            have Hfv := hid hfv
            have Hfv' := hid hfv'
            have hhb2 : w1.heap.size ≠ w.heap.size := fun e => hhb e.symm
            clear hd hO hR hvb hvh hfv hfv'
            by_cases hv3 : x0 < 3
            · go_wp2_with fail
              refine (radd_any x1 x2 x3 w1.heap.size w.heap.size v' l lost _ (HR.out.belowS (by (repeat (first | with_reducible exact Below.refl _ _ | with_reducible assumption | (with_reducible refine Below.drew ?_) | (with_reducible refine Below.manyDrew ?_ _) | ((with_reducible refine Below.alloc ?_ ?_ _); rotate_left; (focus (first | omega | (dsimp only; omega) | (simp; done) | (simp; omega)))) | ((with_reducible refine Below.setCell ?_ ?_ _); rotate_left; (focus (first | omega | (dsimp only; omega) | (simp; done) | (simp; omega)))) | ((with_reducible refine Below.step ?_ (by assumption) ?_); rotate_left; (focus (first | omega | (dsimp only; omega) | (simp; done) | (simp; omega)))))))) hg hl10 hlo hlo2).mono ?_
              rintro e w2 ⟨v2, rfl, hR2, hf2, hF2⟩
              have hsd : (wd.alloc (.cells #[.int .i64 x1, .int .i64 x2, .int .i64 x3] 32)).heap.size = wd.heap.size + 1 := by simp
              have hz2 := hF2.size
              rw [hsd] at hz2 hf2
              have hO2 : HintsO w.heap.size w2 w.heap.size v l lost := (HO.out.belowS (by (repeat (first | with_reducible exact Below.refl _ _ | with_reducible assumption | (with_reducible refine Below.drew ?_) | (with_reducible refine Below.manyDrew ?_ _) | ((with_reducible refine Below.alloc ?_ ?_ _); rotate_left; (focus (first | omega | (dsimp only; omega) | (simp; done) | (simp; omega)))) | ((with_reducible refine Below.setCell ?_ ?_ _); rotate_left; (focus (first | omega | (dsimp only; omega) | (simp; done) | (simp; omega)))) | ((with_reducible refine Below.step ?_ (by assumption) ?_); rotate_left; (focus (first | omega | (dsimp only; omega) | (simp; done) | (simp; omega)))))))).fr hF2 hhb (fun g e h => Hvb.out (by rw [e, h]))
              have hX2 : HAt w2 wd.heap.size 0 ⟨x1, x2, x3⟩ := (HAt.of_blk (Blk.new wd _ _)).fr hF2 (by simp) (fun e => by omega)
              obtain ⟨c0, c1, c2⟩ := hX2
              simp only [Nat.zero_add] at c1 c2
              have hb2 : Below w.heap.size w w2 := (Hbc.out.alloc (by omega) _).trans (hF2.below0 (by simp; omega) (fun i hi => by rw [hi]; omega))
              have HR2 := hid hR2
              have HO2 := hid hO2
              have Hb2 := hid hb2
              have Hf2 := hid hf2
              clear hR2 hO2 hF2 hb2 hsd hf2
              go_wp2_with fail
              refine (hadd_any x1 x2 x3 w.heap.size w.heap.size v l lost _ HO2.out hg hl10 hlo hlo2).mono ?_
              rintro e w3 ⟨v3', rfl, hO3, hf3, hF3⟩
              have hz3 := hF3.size
              have hR3 : RHintsO w.heap.size w3 w1.heap.size v2 (addL l ⟨x1, x2, x3⟩) (addN l lost ⟨x1, x2, x3⟩) := HR2.out.fr hF3 (fun e => e.elim hhb2 (fun e => Hvb.out e.symm)) (fun g hg2 e => by
                rcases e with e | e
                · subst e
                  rcases Hf2.out with o | ⟨k, o, hk⟩
                  · exact Hvh.out (by rw [← o, hg2])
                  · rw [hg2] at o; cases o; omega
                · rcases Hf2.out with o | ⟨k, o, hk⟩
                  · exact Hd.out g e.symm (by rw [← o, hg2])
                  · rw [hg2] at o; cases o
                    have := Hfv.out _ e.symm; omega)
              have hb3 : Below w.heap.size w w3 := Hb2.out.trans (hF3.below0 (by omega) (fun i hi => by
                rcases hi with hi | hi
                · rw [hi]; exact Nat.le_refl _
                · exact HO2.out.2.1.ge i hi))
              have hT3 : Twin w.heap.size w.heap.size w1.heap.size w3 (addL l ⟨x1, x2, x3⟩) (addN l lost ⟨x1, x2, x3⟩) := by
                have hle := addN_le l lost ⟨x1, x2, x3⟩
                refine ⟨v3', v2, hO3, hR3, fun g e1 e2 => ?_, fun e => ?_, fun e => ?_, hhb, addL_good hg, addL_length hl10, by omega⟩
                · rcases hf3 with o | ⟨k, o, hk⟩
                  · rcases Hf2.out with o2 | ⟨k2, o2, hk2⟩
                    · exact Hd.out g (by rw [← o, e1]) (by rw [← o2, e2])
                    · have := Hfv.out g (by rw [← o, e1]); rw [e2] at o2; cases o2; omega
                  · have := (HR2.out.2.1.lt e2).2; rw [e1] at o; cases o; omega
                · rcases hf3 with o | ⟨k, o, hk⟩
                  · exact Hvb.out (by rw [← o, e])
                  · rw [e] at o; cases o; omega
                · rcases Hf2.out with o | ⟨k, o, hk⟩
                  · exact Hvh.out (by rw [← o, e])
                  · rw [e] at o; cases o; omega
              have HT3 := hid hT3
              have Hb3 := hid hb3
              have hg3 : Gl w3 := hgl.below hb3 hg0
              clear hO3 hR3 hT3 hF3 hf3 hb3 c0 c1 c2 cv0 cv1 cv2 cv3
              go_wp2_with fail
              refine (error_any _ _ _ hg3).mono ?_
              rintro e w4 ⟨rfl, hb4⟩
              rw [beq_self_eq_true]
              go_wp2_with fail
              go_meet
              exact ⟨rfl, _, _, (addN_le _ _ _).2, HT3.out.belowS hb4, Below.step Hb3.out hb4 (by omega)⟩
            · have hcase : (0 ≤ x1 ∧ x1 ≤ 5) ∨ x1 < 0 ∨ (0 ≤ x1 ∧ 5 < x1) := by omega
              rcases hcase with ⟨hx0, hx5⟩ | hbad
              · have Hn := hid (nodeB_true.2 (⟨hx0, by omega⟩ : 0 ≤ x1 ∧ x1 < 6))
                go_wp2_with fail
                refine (rtake_any x1 w1.heap.size w.heap.size v' l lost _ HR.out hg hl10).mono ?_
                rintro e w2 ⟨r, v2', rfl, hrx, hrA, hrf, hR2, hf2, hF2⟩
                have hz2 := hF2.size
                have hO2 : HintsO w.heap.size w2 w.heap.size v l lost := HO.out.fr hF2 hhb (fun g e h => Hvb.out (by rw [e, h]))
                have u1 : w2.cell? ⟨wo.heap.size, 1, none⟩ = some (.int .i64 x1) := (hF2.cell (p := ⟨wo.heap.size, 1, none⟩) hVc (by simp only; omega)).trans cv1
                have hb2 : Below w.heap.size w w2 := Hbc.out.trans (hF2.below0 (by omega) (fun i hi => by rw [hi]; omega))
                have HR2 := hid hR2
                have HO2 := hid hO2
                have Hb2 := hid hb2
                have Hf2 := hid hf2
                have Hrf := hid hrf
                have Hrx := hid hrx
                clear hR2 hO2 hF2 hb2 hf2 hrx hrf cv0 cv1 cv2 cv3
                go_wp2_with fail
                refine (htake_any x1 w.heap.size w.heap.size v l lost _ HO2.out hg hl10 Hn.out).mono ?_
                rintro e w3 ⟨r3, v3', rfl, hr3x, hr3A, hr3f, hO3, hf3, hF3⟩
                have hz3 := hF3.size
                have hR3 : RHintsO w.heap.size w3 w1.heap.size v2' (leftL x1 l) lost := HR2.out.fr hF3 hhb2 (fun g hg2 e => by
                  have := Hf2.out g hg2; omega)
                have hb3 : Below w.heap.size w w3 := Hb2.out.trans (hF3.below0 (by omega) (fun i hi => by rw [hi]; exact Nat.le_refl _))
                have hT3 : Twin w.heap.size w.heap.size w1.heap.size w3 (leftL x1 l) lost := by
                  refine ⟨v3', v2', hO3, hR3, fun g e1 e2 => ?_, fun e => ?_, fun e => ?_, hhb, fun y hy => hg y (List.mem_filter.1 hy).1, takeN_le _ _ hl10, hlo⟩
                  · have := hf3 g e1; have := (HR2.out.2.1.lt e2).2; omega
                  · have := hf3 _ e; omega
                  · have := Hf2.out _ e; omega
                have hr3 : HsAt w3 r := hrA.fr hF3 (fun h0 b' off' hA' e => by have := (Hrf.out h0 b' off' hA').1; omega)
                have HT3 := hid hT3
                have Hb3 := hid hb3
                have Hr3 := hid hr3
                have Hr3x := hid hr3x
                have hg3 : Gl w3 := hgl.below hb3 hg0
                clear hO3 hR3 hT3 hF3 hf3 hb3 u1 hr3 hr3x hrA hr3f
                go_wp2_with fail
                refine (error_any 0 0 _ hg3).mono ?_
                rintro e w4 ⟨rfl, hb4⟩
                go_wp2_with fail
                refine (hsame_any r3 r _ (hr3A.stays hb4) (Hr3.out.stays hb4) (by rw [Hr3x.out, Hrx.out])).mono ?_
                rintro e w5 ⟨rfl, hb5⟩
                have hz4 := hb4.size
                go_wp2_with fail
                go_meet
                exact ⟨rfl, _, _, by omega, (HT3.out.belowS hb4).belowS hb5, Below.step (Below.step Hb3.out hb4 (by omega)) hb5 (by omega)⟩
              · have Hn := hid (nodeB_false.2 (show x1 < 0 ∨ 6 ≤ x1 by omega))
                rcases hbad with hbad | ⟨hbad, hbad'⟩
                all_goals
                  go_wp2_with fail
                  refine (htake_no x1 w.heap.size _ Hn.out).mono ?_
                  rintro e w3 ⟨rfl, rfl⟩
                  go_wp2_with fail
                  refine (error_any 1 1 _ hgd).mono ?_
                  rintro e w4 ⟨rfl, hb4⟩
                  go_wp2_with fail
                  refine (hsame_any ⟨none, 0, []⟩ ⟨none, 0, []⟩ _ (HsAt.empty _ _ _) (HsAt.empty _ _ _) rfl).mono ?_
                  rintro e w5 ⟨rfl, hb5⟩
                  have hz4 := hb4.size
                  go_wp2_with fail
                  go_meet
                  exact ⟨rfl, l, lost, by omega, (Twin.belowS (Twin.belowS ⟨v, v', HO.out, HR.out, Hd.out, Hvb.out, Hvh.out, hhb, hg, hl10, hlo⟩ hb4) hb5), Below.step (Below.step Hbc.out hb4 (by omega)) hb5 (by omega)⟩
          case rest =>
            obtain ⟨rfl, l', lost', hle, hT', hb'⟩ := hcut
            obtain ⟨v, v', hO, hR, hd, hvb, hvh, hhb, hg, hl10, hlo⟩ := hT'
            obtain ⟨q, rfl, hqx, hqA, _, _⟩ := HsAt.of_ow hR.2.1 hg
            have hL0 : wc.cell? ⟨w1.heap.size, 0, none⟩ = some (.slice q.A q.xs.length q.c) := hR.1.cell 0
            have hL1 : wc.cell? ⟨w1.heap.size, 1, none⟩ = some (.int .i64 lost') := hR.1.cell 1
            have hbl := hR.1.lt
            have HT : Hid (Twin w.heap.size w.heap.size w1.heap.size wc l' lost') := ⟨v, _, hO, hR, hd, hvb, hvh, hhb, hg, hl10, hlo⟩
            have Hall : Hid (∀ W, Below wc.heap.size wc W → Calls Tryd.prog 11 #[.pointer (some ⟨w.heap.size, 0, none⟩)] W fun e w' => ∃ r : SlV H, e = .returned (.slice r.A r.xs.length r.c) ∧ r.xs = l' ∧ HsAt w' r ∧ (0 < r.xs.length → ∀ b off, r.A = some ⟨b, off, none⟩ → W.heap.size ≤ b) ∧ Below W.heap.size W w') := fun W hW => hall_any w.heap.size w.heap.size v l' lost' W (hO.belowS hW) hg hl10
            have Hlost : Hid (∀ W, Below wc.heap.size wc W → Calls Tryd.prog 12 #[.pointer (some ⟨w.heap.size, 0, none⟩)] W fun e w' => e = .returned (.int .i64 lost') ∧ W = w') := fun W hW => hlost_any w.heap.size w.heap.size v l' lost' W (hO.belowS hW)
            have Hsame : Hid (∀ (W : World) (r : SlV H), Below wc.heap.size wc W → HsAt W r → r.xs = l' → Calls Tryd.prog 10 #[.slice r.A r.xs.length r.c, .slice q.A q.xs.length q.c] W fun e w' => e = .returned (.bool true) ∧ Below W.heap.size W w') := fun W r hW hr he => hsame_any r q W hr (hqA.stays hW) (by rw [he, hqx])
            have Hb' := hid hb'
            have Hle := hid hle
            clear hO hR hd hvb hvh hhb hg hqx hqA hb' hle hlo
            go_wp2_with fail
            go_region_law (first | (go_simp; go_at_call 11; refine (Hall.out _ (by (repeat (first | with_reducible exact Below.refl _ _ | with_reducible assumption | (with_reducible refine Below.drew ?_) | (with_reducible refine Below.manyDrew ?_ _) | ((with_reducible refine Below.alloc ?_ ?_ _); rotate_left; (focus (first | omega | (dsimp only; omega) | (simp; done) | (simp; omega)))) | ((with_reducible refine Below.setCell ?_ ?_ _); rotate_left; (focus (first | omega | (dsimp only; omega) | (simp; done) | (simp; omega)))) | ((with_reducible refine Below.step ?_ (by assumption) ?_); rotate_left; (focus (first | omega | (dsimp only; omega) | (simp; done) | (simp; omega)))))))).mono ?_; rintro e wa ⟨ra, rfl, hax, haA, haf, hba⟩; have Hax := hid hax; have hza := hba.size; have hL0a : wa.cell? ⟨w1.heap.size, 0, none⟩ = some (.slice q.A q.xs.length q.c) := (hba.cell (p := ⟨w1.heap.size, 0, none⟩) hbl).trans hL0; have hL1a : wa.cell? ⟨w1.heap.size, 1, none⟩ = some (.int .i64 lost') := (hba.cell (p := ⟨w1.heap.size, 1, none⟩) hbl).trans hL1; have Hba : Hid (Below wc.heap.size wc wa) := hid (by (repeat (first | with_reducible exact Below.refl _ _ | with_reducible assumption | (with_reducible refine Below.drew ?_) | (with_reducible refine Below.manyDrew ?_ _) | ((with_reducible refine Below.alloc ?_ ?_ _); rotate_left; (focus (first | omega | (dsimp only; omega) | (simp; done) | (simp; omega)))) | ((with_reducible refine Below.setCell ?_ ?_ _); rotate_left; (focus (first | omega | (dsimp only; omega) | (simp; done) | (simp; omega)))) | ((with_reducible refine Below.step ?_ (by assumption) ?_); rotate_left; (focus (first | omega | (dsimp only; omega) | (simp; done) | (simp; omega))))))); clear hax haf) | (go_simp; go_at_call 10; refine (Hsame.out _ ra (by exact Hba.out) haA Hax.out).mono ?_; rintro e wb ⟨rfl, hbb⟩; have hL0b : wb.cell? ⟨w1.heap.size, 0, none⟩ = some (.slice q.A q.xs.length q.c) := (hbb.cell (p := ⟨w1.heap.size, 0, none⟩) (by simp only; have := Hba.out.size; omega)).trans hL0a; have hL1b : wb.cell? ⟨w1.heap.size, 1, none⟩ = some (.int .i64 lost') := (hbb.cell (p := ⟨w1.heap.size, 1, none⟩) (by simp only; have := Hba.out.size; omega)).trans hL1a; have Hbb : Hid (Below wc.heap.size wc wb) := hid (Below.step Hba.out hbb (by have := Hba.out.size; omega))) | (go_simp; go_at_call 12; refine (Hlost.out _ (by exact Hbb.out)).mono ?_; rintro e wl ⟨rfl, rfl⟩))
            all_goals
              go_wp2_with fail
              go_roundw
              case rel => exact ⟨n + 1, l', lost', by omega, by go_num, by have := Hle.out; omega, HT.out.belowS (by exact Hbb.out), Below.step Hb'.out (by exact Hbb.out) (by have := Hb'.out.size; omega)⟩
              case measure => simp [intOf]; omega
      · go_wp2_with fail
        go_ret
        exact ⟨rfl, hbr⟩
    · go_wp2_with fail
      go_ret
      exact ⟨rfl, hbr⟩

set_option maxRecDepth 100000 in
theorem hintPlays_walk : LawWalk Tryd.prog 3 Tryd.f3 Gl := by
  intro W base args H enc ds p hval hA hgl
  rw [Tryd.params3] at hA hval
  obtain ⟨v0, d0, rfl, rfl, h0⟩ := trodAll_one hA
  obtain ⟨st, rfl, hst⟩ := arg_slice Tryd.underlying22 codecInts (pos_of_eq Tryd.cellsInts (by decide)) (hval 0 22 v0 rfl rfl) h0
  exact hintPlays_any st W (intssAt_of hst) hgl

set_option maxRecDepth 100000 in
theorem hintPlays_lifted (os : Os) (started : os.Started) (H : Type) (enc : TypeId × Value → H) :
    ReturnsInHanded {} Tryd.checked os 3 .any (fun w args => (Rows.hintPlaysSpec.pre enc Tryd.checked.prog Tryd.f3 [] false w args ∧ laidMetH Tryd.prog theLaid w) ∧ sizedMet enc Tryd.checked.prog Tryd.f3 (OpenSpec.ofChange Rows.hintPlaysSpec) false w args) (Rows.hintPlaysSpec.post enc Tryd.checked.prog Tryd.f3 false true false false) :=
  laid_lifted (C := Tryd.checked) theLaid (fun _ h => handle_of_laid h) [] Tryd.own started (by kernel_rfl) Tryd.func3 Tryd.laidOut (by kernel_rfl) rfl Tryd.underlying4 rfl (fun ds h => by match ds, h with | [_], _ => rfl)
    (ChangeSpec.witness_at (enc := enc) (C := Tryd.checked) (os := os) (X := fun w _ => laidMetH Tryd.prog theLaid w) false (laidWorld os) #[.slice none 0 0] 8 rfl (by kernel_rfl) (by kernel_rfl) (by kernel_rfl) (by kernel_rfl) (by kernel_rfl) (laidWorld_met os _)) hintPlays_walk

theorem hintPlays_row : Rows.HintPlaysSaid :=
  OpenClaim.holds_of_wide 3 Tryd.f3 rfl rfl rfl rfl rfl rfl rfl ⟨rfl, rfl, rfl, rfl, rfl⟩ rfl rfl rfl rfl rfl (by kernel_rfl) Tryd.func3 (by kernel_rfl)
    (of_decide_eq_true (by kernel_rfl)) (by unfold Func.isWrapper; rw [if_neg (of_decide_eq_false (by kernel_rfl))]; exact ⟨rfl, rfl⟩)
    (fun os started H enc _ => hintPlays_lifted os started H enc)

theorem hintPlays_holds : Rows.HintPlaysCardSaid :=
  Claim7.holds_tied_plain_at .later [] [.handle] true _ true
    hintPlays_row (fun _ h => by cases h) (by kernel_rfl) (fun _ h => by cases h) hintPlays_row_tie rfl ⟨rfl, rfl⟩ (by kernel_rfl) rfl
    (fun f fn hf hfn => by
      obtain rfl : f = 3 := Option.some.inj ((show Tryd.prog.funcNamed "beaconmere/merelaw2.HintPlays" = some 3 by kernel_rfl).symm.trans hf) |>.symm
      obtain rfl : fn = Tryd.f3 := (Option.some.inj (Tryd.func3.symm.trans hfn)).symm
      refine ⟨by kernel_rfl, fun j t ht => ?_⟩
      have hall : Tryd.f3.params.toList.all (fun t => !Tryd.prog.wantsStandIn t) = true := by kernel_rfl
      have hm : t ∈ Tryd.f3.params.toList := by
        obtain ⟨hj, hje⟩ := Array.getElem?_eq_some_iff.1 ht
        rw [← hje]
        exact Array.mem_toList_iff.2 (Array.getElem_mem hj)
      have := List.all_eq_true.1 hall t hm
      exact (show Tryd.prog.wantsStandIn t = false by simpa using this))
    (by kernel_rfl)

end Go.Proofs.YtjhphagcmiggdaaDoor
