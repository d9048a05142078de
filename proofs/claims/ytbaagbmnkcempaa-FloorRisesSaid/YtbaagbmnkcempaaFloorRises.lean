/-
  PROVED HERE: merelaw1.FloorRises returns true: a floor only rises, and what may not be told may not be later. CONDITIONS: none.
-/
import Derived.Test.YtbaagbmnkcempaaFloorLaw
import Derived.Test.YtbaagbmnkcempaaCodecs
import Derived.Deep.DeepCutAuto
import Derived.Deep.CutBlock
namespace Go.Proofs.Ytbaagbmnkcempaa
open Go.RowKit
open Go.ChangeShapes Go.WideShapes Go.ChangeAt

set_option maxHeartbeats 8000000 in
set_option maxRecDepth 100000 in
theorem floorRises_any (st : SlV (SlV Int)) (k v a : Int) (g : Bool) (t : ByteArray) (ht : t.size ≤ maxLen) (w : World)
    (hst : IntssAt w st) :
    Calls Try.prog 4 #[.slice st.A st.xs.length st.c, .agg #[.int .i64 k, .int .i64 v, .int .i64 a, .bool g, .string t]] w fun e w' => e = .returned (.bool true) ∧ Below w.heap.size w w' := by
  have f1 : raiseB (List.replicate 8 0) 2 7 = true := by decide
  have f2 : errV (raiseE 2 7) = .nilIface := by rw [show raiseE 2 7 = 0 by decide]; rfl
  have f3 : raiseL (List.replicate 8 0) 2 7 = [0, 0, 7, 0, 0, 0, 0, 0] := by decide
  have f4 : raiseB [0, 0, 7, 0, 0, 0, 0, 0] 2 5 = false := by decide
  have f5 : errV (raiseE 2 5) = .nilIface := by rw [show raiseE 2 5 = 0 by decide]; rfl
  have f6 : raiseL [0, 0, 7, 0, 0, 0, 0, 0] 2 5 = [0, 0, 7, 0, 0, 0, 0, 0] := by decide
  have F1 := hid f1
  have F2 := hid f2
  have F3 := hid f3
  have F4 := hid f4
  have F5 := hid f5
  have F6 := hid f6
  clear f1 f2 f3 f4 f5 f6
  go_enter Try.func4, Try.ntmps4
  go_wp2_with fail
  refine (new_floor _).mono ?_
  rintro e w1 ⟨rfl, hB1, hb1⟩
  obtain ⟨hc1, hf1⟩ := bcell hb1
  have hz1 := hb1.size
  have hl1 := hB1.lt
  simp only [World.size_alloc] at hz1 hB1 hl1
  go_wp2_with fail
  refine (raise_any _ _ (by simp) 2 7 _ hB1).mono ?_
  rw [F1.out, F2.out, F3.out]
  rintro e w2 ⟨rfl, hB2, hF2⟩
  go_wp2_with fail
  refine (raise_any _ _ (by simp) 2 5 _ hB2).mono ?_
  rw [F4.out, F5.out, F6.out]
  rintro e w3 ⟨rfl, hB3, hF3⟩
  go_wp2_with fail
  refine (of_any _ _ (by simp) 2 _ hB3).mono ?_
  rw [if_pos (by decide), if_pos (by decide), errV_zero]
  rintro e w4 ⟨rfl, rfl⟩
  go_wp2_with fail
  refine (new_floor _).mono ?_
  rintro e w5 ⟨rfl, hB5, hb5⟩
  have hz5 := hb5.size
  have hz2 := hF2.size
  have hz3 := hF3.size
  have hE : Blk w5 w.heap.size 28 #[.int .i64 k, .int .i64 v, .int .i64 a, .bool g, .string t] :=
    (((Blk.new w _ _).belowS hb1).fr hF2 (by omega)).fr hF3 (by omega) |>.belowS hb5
  have hbel : Below w.heap.size w w5 := by
    refine Below.step (Below.stepFr (Below.stepFr (Below.step ((Below.refl _ _).alloc (Nat.le_refl _) _) hb1 ?_) hF2 ?_ ?_) hF3 ?_ ?_) hb5 ?_
    all_goals first | omega | (simp; omega) | simp
  have hl5 := hB5.lt
  have hle : w.heap.size < w3.heap.size := by omega
  clear hB1 hb1 hc1 hf1 hB2 hF2 hB3 hF3 hb5 hl1 hz1 hz2 hz3
  have hW : Blk (w5.alloc (.cells (ints (List.replicate 8 0)) 37)) w5.heap.size 37 (ints (List.replicate 8 0)) := Blk.new _ _ _
  have hB6 := hB5.alloc (.cells (ints (List.replicate 8 0)) 37)
  have hE6 := hE.alloc (.cells (ints (List.replicate 8 0)) 37)
  have hbel6 : Below w.heap.size w (w5.alloc (.cells (ints (List.replicate 8 0)) 37)) := hbel.alloc (by omega) _
  clear hE hbel hB5
  have hlen := hst.len
  unfold maxLen at hlen
  go_wp2_with fail
  go_loopw [13, 15] (fun m i wr => ∃ (n : Nat) (fs : List Int) (mb : Bool), n ≤ 60 ∧ i = .int .i64 n ∧ m = .bool mb ∧ fs.length = 8 ∧ Blk wr w3.heap.size 51 (ints fs) ∧ Blk wr w5.heap.size 37 (ints fs) ∧ Blk wr w.heap.size 28 #[.int .i64 k, .int .i64 v, .int .i64 a, .bool g, .string t] ∧ Below w.heap.size w wr ∧ (mb = false → a < fs.getD k.toNat 0))
    (fun _ i _ => 60 - (intOf i).toNat)
  case atStart => exact ⟨0, List.replicate 8 0, true, by omega, rfl, rfl, by simp, hB6, hW, hE6, hbel6, by intro h; cases h⟩
  case round =>
    obtain ⟨n, fs, mb, hn, rfl, rfl, hl8, hBr, hWr, hEr, hbr, hmb⟩ := hrel
    clear hB6 hW hE6 hbel6
    by_cases hn1 : n < st.xs.length
    · by_cases hn2 : n < 60
      · obtain ⟨b, off, hA, hb, hcells⟩ := hst.row (by omega)
        have hcell := hcells n hn1
        have hin := hst.each n hn1
        rw [← hbr.cell (p := ⟨b, off + n, none⟩) hb] at hcell
        have HA := hid hA
        rw [hA]
        generalize hrw : st.xs[n] = rw_ at *
        clear hcells hA
        obtain ⟨wo, rfl⟩ : ∃ wo : World, wo = wr := ⟨_, rfl⟩
        have hzr := hbr.size
        have hVlt : w.heap.size < wo.heap.size := hEr.lt
        have hFlt := hBr.lt
        have hWlt := hWr.lt
        go_upto_block 2 with fail
        go_cut [] (fun wx => ∃ vs : List Int, vs.length = 3 ∧ Blk wx wo.heap.size 38 (ints vs) ∧ Fr (fun x => x = wo.heap.size) (wo.alloc (.cells (ints [0, 0, 0]) 38)) wx)
        case first =>
          have hV0 : Blk (wo.alloc (.cells (ints [0, 0, 0]) 38)) wo.heap.size 38 (ints [0, 0, 0]) := Blk.new _ _ _
          go_wp2_with fail
          go_loopw [17] (fun j w2 => ∃ (m : Nat) (vs : List Int), m ≤ 3 ∧ m ≤ rw_.xs.length ∧ j = .int .i64 m ∧ vs.length = 3 ∧ Blk w2 wo.heap.size 38 (ints vs) ∧ Fr (fun x => x = wo.heap.size) (wo.alloc (.cells (ints [0, 0, 0]) 38)) w2)
            (fun j _ => 3 - (intOf j).toNat)
          case atStart => exact ⟨0, [0, 0, 0], by omega, by omega, rfl, rfl, hV0, Fr.refl _ _⟩
          case round =>
            obtain ⟨m, vs, hm3, hml, rfl, hvl, hVb, hVf⟩ := hrel
            have hcell2 := (hVf.cell (p := ⟨b, off + n, none⟩) (by simp; omega) (by simp; omega)).trans ((World.cell?_alloc_lt wo _ ⟨b, off + n, none⟩ (by simp; omega)).trans hcell)
            by_cases hm1 : m < rw_.xs.length
            · by_cases hm2 : m < 3
              · obtain ⟨b2, off2, hA2, hb2, hcells2⟩ := hin.row (by omega)
                have hx := hcells2 m hm1
                have hx2 := (hVf.cell (p := ⟨b2, off2 + m, none⟩) (by simp; omega) (by simp; omega)).trans ((World.cell?_alloc_lt wo _ ⟨b2, off2 + m, none⟩ (by simp; omega)).trans ((hbr.cell (p := ⟨b2, off2 + m, none⟩) hb2).trans hx))
                rw [hA2] at hcell2
                generalize rw_.xs.getD m 0 = x at *
                have hv : _ = some (Value.int .i64 (vs.getD m 0)) := (hVb.cell m).trans (ints_get vs m (by omega))
                have hvf := hVb.frozen m
                have hVb' := hVb.put m (.int .i64 x)
                rw [ints_set] at hVb'
                have hVf' := Fr.setCell (S := fun x => x = wo.heap.size) hVf (p := ⟨wo.heap.size, m, none⟩) (.inl rfl) (.int .i64 x)
                have HV := hid (And.intro hVb' hVf')
                clear hcells2 hA2 hx hVb' hVf'
                go_wp2_with fail
                go_roundw
                case rel => exact ⟨m + 1, _, by omega, by omega, by go_num, by simpa using hvl, HV.out.1, HV.out.2⟩
                case measure => simp [intOf]; omega
              · go_wp2_with fail
                go_meet
                exact ⟨vs, hvl, hVb, hVf⟩
            · go_wp2_with fail
              go_meet
              exact ⟨vs, hvl, hVb, hVf⟩
        case rest =>
          obtain ⟨vs, hvl, hVb, hVf⟩ := hcut
          obtain ⟨x0, x1, x2, rfl⟩ : ∃ x0 x1 x2, vs = [x0, x1, x2] := by
            match vs, hvl with
            | [x0, x1, x2], _ => exact ⟨x0, x1, x2, rfl⟩
          have v0 : wc.cell? ⟨wo.heap.size, 0, none⟩ = some (.int .i64 x0) := hVb.cell 0
          have v1 : wc.cell? ⟨wo.heap.size, 1, none⟩ = some (.int .i64 x1) := hVb.cell 1
          have v2 : wc.cell? ⟨wo.heap.size, 2, none⟩ = some (.int .i64 x2) := hVb.cell 2
          have hBc := (hBr.alloc (.cells (ints [0, 0, 0]) 38)).fr hVf (by omega)
          have hWc := (hWr.alloc (.cells (ints [0, 0, 0]) 38)).fr hVf (by omega)
          have hEc := (hEr.alloc (.cells (ints [0, 0, 0]) 38)).fr hVf (by omega)
          have hbc : Below w.heap.size w wc := Below.stepFr (hbr.alloc (by omega) _) hVf (by simp; omega) (by omega)
          obtain ⟨wd, rfl⟩ : ∃ wd : World, wd = wc := ⟨_, rfl⟩
          clear hVf hVb hcell hin hEr hBr hWr hbr
          go_upto_if 95 with fail
          go_cut [] (fun wx => ∃ fs' : List Int, Up fs fs' ∧ Blk wx w3.heap.size 51 (ints fs') ∧ Fr (fun x => x = w3.heap.size) wd wx)
          case first =>
            go_wp2_with (first | (go_at_call 12; refine (all_any _ fs hl8 _ _ hBc).mono ?_; rintro e we ⟨rfl, hBe, hFe⟩) | (go_at_call 10; refine (raise_any _ fs hl8 _ _ _ hBc).mono ?_; rintro e we ⟨rfl, hBe, hFe⟩))
            all_goals
              go_meet
              first
                | exact ⟨_, Up.all hl8 _, hBe, hFe⟩
                | exact ⟨_, Up.raise hl8 _ _, hBe, hFe⟩
          case rest =>
            obtain ⟨fs', hup, hBx, hFx⟩ := hcut
            obtain ⟨we, rfl⟩ : ∃ we : World, we = wc := ⟨_, rfl⟩
            have hWe := hWc.fr hFx (by omega)
            have hEe := hEc.fr hFx (by omega)
            have hbe : Below w.heap.size w we := Below.stepFr hbc hFx (by have := hbc.size; omega) (by omega)
            clear hFx hBc hWc hEc hbc v0 v1 v2
            go_wp2_with fail
            go_loopw [18] (fun kk wl => ∃ m : Nat, m ≤ 8 ∧ kk = .int .i64 m ∧ Blk wl w5.heap.size 37 (ints (fs'.take m ++ fs.drop m)) ∧ Fr (fun x => x = w5.heap.size) we wl) (fun kk _ => 8 - (intOf kk).toNat)
            case atStart => exact ⟨0, by omega, rfl, by simpa using hWe, Fr.refl _ _⟩
            case round =>
              obtain ⟨m, hm, rfl, hWl, hFl⟩ := hrel
              have hBl := hBx.fr hFl (by omega)
              by_cases hm8 : m < 8
              · have hlo := hup.2 m
                have hget := mix_get fs fs' m hup.1 hm8
                have hset := mix_set fs fs' m hl8 hup.1 hm8
                have hlen8 : (fs'.take m ++ fs.drop m).length = 8 := by simp [hl8, hup.1]; omega
                have hwas : wr.cell? ⟨w5.heap.size, m, none⟩ = some (.int .i64 (fs.getD m 0)) := by
                  rw [hWl.cell m, ints_get _ _ (by omega), hget]
                have hwasf := hWl.frozen m
                have hkm : keyB (m : Int) = true := keyB_true.2 (by omega)
                have Hkm := hid hkm
                have hW2 := hWl.put m (.int .i64 (fs'.getD m 0))
                rw [ints_set, hset] at hW2
                have hF2 := Fr.setCell (S := fun x => x = w5.heap.size) hFl (p := ⟨w5.heap.size, m, none⟩) (.inl rfl) (.int .i64 (fs'.getD m 0))
                have HW2 := hid (And.intro hW2 hF2)
                clear hget hset hlen8 hW2 hF2 hkm
                go_wp2_with fail
                refine (of_any _ fs' hup.1 m _ hBl).mono ?_
                rw [if_pos Hkm.out, if_pos Hkm.out, Int.toNat_natCast, errV_zero]
                rintro e wz ⟨rfl, rfl⟩
                generalize fs.getD m 0 = y at *
                generalize fs'.getD m 0 = z at *
                go_wp2_with fail
                go_roundw
                case rel => exact ⟨m + 1, by omega, by go_num, HW2.out.1, HW2.out.2⟩
                case measure => simp [intOf]; omega
              · obtain rfl : m = 8 := by omega
                have hWf : Blk wr w5.heap.size 37 (ints fs') := by
                  have : fs'.take 8 ++ fs.drop 8 = fs' := by rw [List.take_of_length_le (by rw [hup.1]; omega), List.drop_of_length_le (by rw [hl8]; omega), List.append_nil]
                  rw [this] at hWl
                  exact hWl
                have hEl := hEe.fr hFl (by omega)
                have hbl : Below w.heap.size w wr := Below.stepFr hbe hFl (by have := hbe.size; omega) (by omega)
                have q0 : wr.cell? ⟨w.heap.size, 0, none⟩ = some (.int .i64 k) := hEl.cell 0
                have q1 : wr.cell? ⟨w.heap.size, 1, none⟩ = some (.int .i64 v) := hEl.cell 1
                have q2 : wr.cell? ⟨w.heap.size, 2, none⟩ = some (.int .i64 a) := hEl.cell 2
                have q3 : wr.cell? ⟨w.heap.size, 3, none⟩ = some (.bool g) := hEl.cell 3
                have q4 : wr.cell? ⟨w.heap.size, 4, none⟩ = some (.string t) := hEl.cell 4
                obtain ⟨wl, rfl⟩ : ∃ wl : World, wl = wr := ⟨_, rfl⟩
                have hWlt' := hWf.lt
                have hElt' := hEl.lt
                clear hFl hWl hWe hEe hbe hBx
                by_cases hc : chk ⟨k, v, a, g, t⟩ = 0
                · have hk := keyB_true.1 (chk_zero.1 hc).1
                  simp only at hk
                  obtain ⟨j, rfl⟩ := Int.eq_ofNat_of_zero_le hk.1
                  have hj8 : j < 8 := by omega
                  have he : errV (chk ⟨j, v, a, g, t⟩) = .nilIface := by rw [hc]; rfl
                  have He := hid he
                  have Hc := hid hc
                  have hwj : wl.cell? ⟨w5.heap.size, j, none⟩ = some (.int .i64 (fs'.getD j 0)) := by
                    rw [hWf.cell j, ints_get _ _ (by rw [hup.1]; omega)]
                  have hupj := hup.2 j
                  simp only [Int.toNat_natCast] at hmb
                  have hfin : ∀ mb' : Bool, (mb' = false → a < fs'.getD j 0) → (mb' = false → a < fs'.getD ((j : Int)).toNat 0) := by
                    intro mb' h
                    rw [Int.toNat_natCast]
                    exact h
                  have Hfin := hid hfin
                  have Hf8 := hid hup.1
                  clear he hc hfin hup hl8
                  go_wp2_with fail
                  refine (may_any _ fs' Hf8.out j v a g t ht _ hBl).mono ?_
                  rw [if_pos Hc.out, He.out, Int.toNat_natCast]
                  rintro e w6 ⟨rfl, hb6⟩; obtain ⟨hc6, hf6⟩ := bcell hb6; have hz6 := hb6.size; (try simp only [World.size_alloc] at hz6); (try simp only [World.size_setCell] at hz6)
                  generalize fs'.getD j 0 = z at *
                  have hl6 : w.heap.size < w6.heap.size := by omega
                  have hl7 : w5.heap.size < w6.heap.size := by omega
                  by_cases hz : z ≤ a
                  · have hmt : mb = true := by
                      cases mb with
                      | true => rfl
                      | false => have := hmb rfl; omega
                    subst hmt
                    have hdz : decide (z ≤ a) = true := decide_eq_true hz
                    go_wp2_with fail
                    go_quiet (fail)
                    go_wp2_with fail
                    go_roundw
                    case rel => exact ⟨n + 1, fs', true, by omega, by go_num, rfl, Hf8.out, (hBl.belowS hb6).drewN _, (hWf.belowS hb6).drewN _, (hEl.belowS hb6).drewN _, Below.manyDrew (Below.step hbl hb6 hbl.size) _, by intro h; cases h⟩
                    case measure => simp [intOf]; omega
                  · have hdz : decide (z ≤ a) = false := decide_eq_false hz
                    go_wp2_with fail
                    go_quiet (fail)
                    go_wp2_with fail
                    go_roundw
                    case rel => exact ⟨n + 1, fs', false, by omega, by go_num, rfl, Hf8.out, (hBl.belowS hb6).drewN _, (hWf.belowS hb6).drewN _, (hEl.belowS hb6).drewN _, Below.manyDrew (Below.step hbl hb6 hbl.size) _, Hfin.out _ (fun _ => by omega)⟩
                    case measure => simp [intOf]; omega
                · have he := errV_ne hc
                  have He := hid he
                  have Hc : Hid (chk ⟨k, v, a, g, t⟩ ≠ 0) := hc
                  have Hf8 := hid hup.1
                  have hfin : mb = false → a < fs'.getD k.toNat 0 := fun h => Int.lt_of_lt_of_le (hmb h) (hup.2 _)
                  have Hfin := hid hfin
                  clear he hc hfin hup hl8 hmb
                  go_wp2_with fail
                  refine (may_any _ fs' Hf8.out k v a g t ht _ hBl).mono ?_
                  rw [if_neg Hc.out, He.out]
                  rintro e w6 ⟨rfl, hb6⟩; obtain ⟨hc6, hf6⟩ := bcell hb6; have hz6 := hb6.size; (try simp only [World.size_alloc] at hz6); (try simp only [World.size_setCell] at hz6)
                  go_wp2_with fail
                  go_roundw
                  case rel => exact ⟨n + 1, fs', mb, by omega, by go_num, rfl, Hf8.out, hBl.belowS hb6, hWf.belowS hb6, hEl.belowS hb6, Below.step hbl hb6 hbl.size, Hfin.out⟩
                  case measure => simp [intOf]; omega
      · go_wp2_with fail
        go_ret
        exact ⟨rfl, hbr⟩
    · go_wp2_with fail
      go_ret
      exact ⟨rfl, hbr⟩

set_option maxRecDepth 100000 in
theorem floorRises_walk : LawWalk Try.prog 4 Try.f4 (fun _ => True) := by
  intro W base args H enc ds p hval hA _
  rw [Try.params4] at hA hval
  obtain ⟨v0, v1, d0, d1, p0, p1, rfl, rfl, rfl, h0, h1⟩ := trodAll_two hA
  obtain ⟨st, rfl, hst⟩ := arg_slice Try.underlying26 codecInts (pos_of_eq Try.cellsInts (by decide)) (hval 0 26 v0 rfl rfl) h0
  obtain ⟨⟨k, v, a, g, t⟩, rfl, hg⟩ := arg_struct Try.underlying28 codecEntry (hval 1 28 v1 rfl rfl) h1
  exact floorRises_any st k v a g t hg.2.2.2 W (intssAt_of hst)

set_option maxRecDepth 100000 in
theorem floorRises_lifted (os : Os) (started : os.Started) (H : Type) (enc : TypeId × Value → H) :
    ReturnsInHanded {} Try.checked os 4 .any (Rows.floorRisesSpec.pre6 enc Try.prog Try.f4 Rows.floorRisesRow.domain false) (Rows.floorRisesSpec.post enc Try.prog Try.f4 false true false false) :=
  law_lifted (C := Try.checked) Rows.floorRisesRow.domain Try.own started (by kernel_rfl) Try.func4 Try.laidOut (by kernel_rfl) rfl Try.underlying4 rfl (fun ds h => by match ds, h with | [_, _], _ => rfl)
    (ChangeSpec.witness6 (enc := enc) (C := Try.checked) false ⟨#[], #[.slice none 0 0, .agg #[.int .i64 0, .int .i64 0, .int .i64 0, .bool false, .string ⟨#[]⟩]], []⟩ 8 (by kernel_rfl) (by kernel_rfl) (by kernel_rfl) (by kernel_rfl)) floorRises_walk

theorem floorRises_holds : Rows.FloorRisesSaid :=
  OpenClaim.holds_of_wide 4 Try.f4 rfl rfl rfl rfl rfl rfl rfl ⟨rfl, rfl, rfl, rfl, rfl⟩ rfl rfl rfl rfl rfl (by kernel_rfl) Try.func4 (by kernel_rfl)
    (of_decide_eq_true (by kernel_rfl)) (by unfold Func.isWrapper; rw [if_neg (of_decide_eq_false (by kernel_rfl))]; exact ⟨rfl, rfl⟩)
    (fun os started H enc _ => floorRises_lifted os started H enc)

end Go.Proofs.Ytbaagbmnkcempaa
