/-
  THE REFERENCE's Line, word by word (get). CONDITIONS: none.
-/
import Derived.Test.YtemhdfodghfkfaaGreatDoorRefKit
namespace Go.Proofs.YtemhdfodghfkfaaGreatDoor
open Go.RowKit
open Go.ChangeShapes Go.WideShapes Go.ChangeAt
variable {base m : Nat} {A : Nat → Prop} {S : RSt}

set_option maxHeartbeats 8000000 in
set_option maxRecDepth 100000 in
theorem rline_get (l : Tx) (hl : l.length ≤ 3000) (tl : List Tx) (hcs : cutC 32 l = getW :: tl) (w : World) (h : RMeshW base w m S.D S.C A) (hB : base ≤ w.heap.size) (hA : ∀ i, A i → i < w.heap.size) (hC : S.C.length ≤ 6) :
    Calls Tryz.prog 8 #[.pointer (some ⟨m, 0, none⟩), .string (mkB l)] w (RLineR base m A w (S.line l)) := by
  have hlen := cutC_len 32 l
  have hmany := cutC_many 32 l
  rw [hcs] at hlen hmany
  have htl : ∀ p ∈ tl, p.length ≤ 3000 := fun p hp => Nat.le_trans (hlen p (List.mem_cons_of_mem _ hp)) hl
  rw [List.length_cons] at hmany
  have HF := hid (front_cut l hl getW tl hcs w)
  have HM := hid (And.intro h (And.intro hB (And.intro hA hC)))
  clear h hB hA hC hlen
  by_cases hk : tl.length = 3
  · have hS := by_get (S := S) hcs hk
    obtain ⟨R, hR⟩ : ∃ R, S.line l = R := ⟨_, rfl⟩
    rw [hR] at hS ⊢
    have HS := hid hS
    clear hcs hS hR
    go_enter Tryz.func8, Tryz.ntmps8
    go_wp2_with fail
    refine HF.out.mono ?_
    rintro e w1 ⟨b, off, c, rfl, c0, cs, hc, hbl, hb1⟩
    have q0 : ((mkB getW).toList == [112, 117, 116]) = false := word_is _ (by decide)
    have q1 : ((mkB getW).toList == [100, 101, 108, 101, 116, 101]) = false := word_is _ (by decide)
    have q2 : ((mkB getW).toList == [115, 119, 97, 112]) = false := word_is _ (by decide)
    have q3 : ((mkB getW).toList == [103, 101, 116]) = true := word_is _ (by decide)
    have q4 : ((mkB getW).toList == [115, 101, 113]) = false := word_is _ (by decide)
    have q5 : ((mkB getW).toList == [99, 97, 99, 104, 101]) = false := word_is _ (by decide)
    have q6 : ((mkB getW).toList == [111, 119, 110, 101, 114]) = false := word_is _ (by decide)
    generalize mkB getW = hdB at *
    have hcw : ∀ k, 1 ≤ k → k ≤ 3 → w1.cell? ⟨b, off + k, none⟩ = some (.string (mkB (tl.getD (k - 1) []))) := fun k h1 h2 => by
      have := cs (k - 1) (by omega)
      rw [show k - 1 + 1 = k by omega] at this
      rw [this, List.getD_eq_getElem?_getD, List.getElem?_eq_getElem (by omega : k - 1 < tl.length)]
      rfl
    obtain ⟨ws, hws⟩ : ∃ ws : List Tx, ws = tl := ⟨_, rfl⟩
    have hwl : ws.length = 3 := by rw [hws]; exact hk
    have hwx : ∀ p ∈ ws, p.length ≤ 3000 := by rw [hws]; exact htl
    rw [← hws] at hcw HS
    rw [hk] at *
    clear cs htl hws hmany
    have Hcw := hid hcw
    have Hwx := hid hwx
    have Hb1 := hid hb1
    have hz1 := hb1.size
    clear hcw hwx hb1
    go_wp2_with fail
    go_loopw [8, 9] (fun v i wr => ∃ (k : Nat) (ns : List Nat), 1 ≤ k ∧ k ≤ 4 ∧ i = .int .i64 k ∧ ns.length = k - 1 ∧ numsL (ws.take (k - 1)) = some ns ∧ Ow cellI 1 w1.heap.size 3 wr v (ns.map (fun (n : Nat) => (n : Int))) ∧ Below w1.heap.size w1 wr) (fun _ i _ => 4 - (intOf i).toNat)
    case atStart => exact ⟨1, [], Nat.le_refl _, by omega, rfl, rfl, rfl, Ow.nil _ _ _ _ _, Below.refl _ _⟩
    case round =>
      obtain ⟨k, ns, hk1, hk2, rfl, hnl, hns, hO, hbr⟩ := hrel
      have hzr := hbr.size
      have HO := hid hO
      have Hns := hid hns
      have Hbr := hid hbr
      clear hO hns hbr
      by_cases hlt : k ≤ 3
      · have hkI : (k : Int) ≤ 3 := by omega
        have hx := (Hbr.out.cell (p := ⟨b, off + k, none⟩) hbl).trans (Hcw.out k hk1 hlt)
        obtain ⟨x, hxe⟩ : ∃ x, ws.getD (k - 1) [] = x := ⟨_, rfl⟩
        rw [hxe] at hx
        have hxm : x ∈ ws := by
          rw [← hxe, List.getD_eq_getElem?_getD, List.getElem?_eq_getElem (by omega : k - 1 < ws.length)]
          exact List.getElem_mem _
        have htd := words_split (k := k - 1) (by omega : k - 1 < ws.length) hxe
        have hxl := Hwx.out x hxm
        have HN := hid (rnumber_any x (by omega) wr)
        have Htd := hid htd
        clear hxm htd hxe
        cases hN : numL x with
        | none =>
          have hbad : numsL ws = none := by rw [Htd.out.1]; exact numsL_bad _ _ _ hN
          obtain rfl := HS.out.1 hbad
          rw [hN] at HN
          have HN1 := hid (show Calls Tryz.prog 16 #[.string (mkB x)] wr (fun e w' => e = .returned (.tuple #[.int .i64 0, .bool false]) ∧ wr = w') from HN.out)
          clear hN hbad HN
          go_wp2_with fail
          refine HN1.out.mono ?_
          rintro e w2 ⟨rfl, rfl⟩
          clear HN1
          go_wp2_with fail
          go_ret
          exact ⟨rfl, RLn.none HM.out.1 (Below.step Hb1.out Hbr.out hz1)⟩
        | some n =>
          rw [hN] at HN
          have HN1 := hid (show Calls Tryz.prog 16 #[.string (mkB x)] wr (fun e w' => e = .returned (.tuple #[.int .i64 (n : Int), .bool true]) ∧ wr = w') from HN.out)
          have hnew : numsL (ws.take (k - 1 + 1)) = some (ns ++ [n]) := by rw [Htd.out.2, numsL_snoc, Hns.out, hN]
          have Hnew := hid hnew
          have hnl1 : (ns.map (fun (n : Nat) => (n : Int))).length = k - 1 := by rw [List.length_map]; exact hnl
          clear hN hnew HN
          go_wp2_with fail
          refine HN1.out.mono ?_
          rintro e w2 ⟨rfl, rfl⟩
          clear HN1
          go_wp2_with (at_builtin; refine appI _ w1.heap.size _ (ns.map (fun (n : Nat) => (n : Int))) (n : Int) HO.out rfl _ _ rfl rfl rfl ?_ ?_ ?_ ?_)
          any_goals (first | (with_reducible rfl) | omega | exact World.size_alloc _ _ | (show _ ≤ _; rw [World.size_alloc]; omega))
          intro v8 w8 h8 f8 o8
          have hb8 : Below w1.heap.size w1 w8 := Hbr.out.trans (f8.below0 hzr (fun i hi => HO.out.ge _ hi))
          go_wp2_with fail
          go_roundw
          case rel => exact ⟨k + 1, ns ++ [n], by omega, by omega, by go_num, by rw [List.length_append, List.length_singleton, hnl]; omega, by rw [show k + 1 - 1 = k - 1 + 1 by omega]; exact Hnew.out, by rw [List.map_append]; exact h8, hb8⟩
          case measure => simp [intOf]; omega
      · obtain rfl : k = 4 := by omega
        have hfull : numsL ws = some ns := by
          have := Hns.out
          rwa [List.take_of_length_le (by omega)] at this
        match ns, hnl with
        | [n0, n1, n2], _ =>
        have hRS := HS.out.2 _ _ _ hfull
        have c0r := (Hbr.out.cell (p := ⟨b, off, none⟩) hbl).trans c0
        obtain ⟨g, og, cap, rfl, hc1, hc2, hg1, hg2, hg3, hgc, -⟩ := HO.out.get (by simp)
        have i0 : wr.cell? ⟨g, og, none⟩ = some (.int .i64 (n0 : Int)) := by simpa [cellI] using hgc 0 (by simp) 0 (by decide)
        have i1 : wr.cell? ⟨g, og + 1, none⟩ = some (.int .i64 (n1 : Int)) := by simpa [cellI] using hgc 1 (by simp) 0 (by decide)
        have i2 : wr.cell? ⟨g, og + 2, none⟩ = some (.int .i64 (n2 : Int)) := by simpa [cellI] using hgc 2 (by simp) 0 (by decide)
        simp only [List.length_map, List.length_cons, List.length_nil] at hc1
        have hgw : w.heap.size ≤ g := Nat.le_trans hz1 hg1
        have Hbw := hid (Below.step Hb1.out Hbr.out hz1)
        have HMr := hid (HM.out.1.belowS Hbw.out)
        clear HS hfull Hcw Hwx HO Hns c0 hbl Hbr Hb1
        obtain ⟨f1, f2, f3⟩ := entOk_get HMr.out.deeds HMr.out.cac (n0 : Int) (n1 : Int) (n2 : Int)
        have HP := hid (fun W (hW : Below wr.heap.size wr W) => (rmgetW (n0 : Int) (n1 : Int) (n2 : Int) W (HMr.out.belowS hW) (Nat.le_trans HM.out.2.1 (Nat.le_trans Hbw.out.size hW.size))).mono (fun e X hh => (show e = .returned (.tuple #[(mgetR S.D S.C (n0 : Int) (n1 : Int) (n2 : Int)).1.1.val, .bool (mgetR S.D S.C (n0 : Int) (n1 : Int) (n2 : Int)).1.2.1, .int .i64 (mgetR S.D S.C (n0 : Int) (n1 : Int) (n2 : Int)).1.2.2]) ∧ RMeshW base X m S.D (mgetR S.D S.C (n0 : Int) (n1 : Int) (n2 : Int)).2 (AOr A W X) ∧ Fr (RTouch base A) W X ∧ KN w.heap.size wr X from ⟨hh.1, hh.2.1, hh.2.2, ((KN.refl _ wr).below hW).fr hh.2.2 HM.out.2.2.1⟩)))
        generalize mgetR S.D S.C (n0 : Int) (n1 : Int) (n2 : Int) = r at *
        obtain ⟨⟨⟨xk, xv, xa, xg, xt⟩, gd, er⟩, C'⟩ := r
        obtain ⟨h1v, h2v, h3v, h4v, h5v⟩ := f1
        simp only at h1v h2v h3v h4v h5v f2 f3 hRS
        obtain ⟨xv, rfl⟩ := Int.eq_ofNat_of_zero_le h1v
        obtain ⟨xa, rfl⟩ := Int.eq_ofNat_of_zero_le h3v
        obtain ⟨U, rfl⟩ : ∃ U : Tx, xt = mkB U := ⟨xt.data.toList, (mkB_back xt).symm⟩
        rw [mkB_size] at h5v
        replace HP := hid (show ∀ W, Below wr.heap.size wr W → Calls Tryz.prog 19 #[.pointer (some ⟨m, 0, none⟩), .int .i64 (n0 : Int), .int .i64 (n1 : Int), .int .i64 (n2 : Int)] W (fun e X => e = .returned (.tuple #[.agg #[.int .i64 xk, .int .i64 (xv : Int), .int .i64 (xa : Int), .bool xg, .string (mkB U)], .bool gd, .int .i64 er]) ∧ RMeshW base X m S.D C' (AOr A W X) ∧ Fr (RTouch base A) W X ∧ KN w.heap.size wr X) from HP.out)
        obtain ⟨u, hu⟩ : ∃ u : Tx, u = if xg = true then goneT else U := ⟨_, rfl⟩
        obtain ⟨u2, hu2⟩ : ∃ u2 : Tx, u2 = u ++ (if gd = true then cachedT else []) := ⟨_, rfl⟩
        have hul : u.length ≤ 3000 := by
          rw [hu]
          split
          · decide
          · exact h5v
        have hu2l : u2.length ≤ 3007 := by
          rw [hu2, List.length_append]
          have : (if gd = true then cachedT else []).length ≤ 7 := by split <;> decide
          omega
        have hRS2 : R = (if er = 0 then digN xv ++ [45] ++ (digN xa ++ ([32] ++ u2)) else nameE er, ⟨S.D, C'⟩) := by
          rw [hRS, hu2, hu]
          congr 1
          split
          · unfold entT
            simp only [Int.toNat_natCast, List.append_assoc]
            rfl
          · rfl
        obtain ⟨ans, hans⟩ : ∃ ans, ans = if er = 0 then digN xv ++ [45] ++ (digN xa ++ ([32] ++ u2)) else nameE er := ⟨_, rfl⟩
        rw [← hans] at hRS2
        obtain rfl : R = (ans, ⟨S.D, C'⟩) := hRS2
        have Hans := hid hans
        clear hans
        have HV := hid (fun W => rdig_any xv (by omega) W)
        have HA := hid (fun W => rdig_any xa (by omega) W)
        have HE := hid (fun W => rname_any er f2 f3 W)
        have hvl := (digN_len xv).2
        have hal := (digN_len xa).2
        generalize digN xv = V at *
        generalize digN xa = VA at *
        have Hu := hid hu
        have Hu2 := hid hu2
        have HAr := hid (show ∀ i, A i → i < wr.heap.size from fun i hi => Nat.lt_of_lt_of_le (HM.out.2.2.1 i hi) Hbw.out.size)
        clear hRS f2 f3 h1v h2v h3v h4v h5v hu hu2
        go_upto_region 44 with fail
        go_cut [16, 17, 18] (fun x6 x7 x8 wx => BoxN base m A w S.D C' #[.int .i64 xk, .int .i64 (xv : Int), .int .i64 (xa : Int), .bool xg, .string (mkB U)] x6 wx ∧ x7 = .bool gd ∧ x8 = .int .i64 er)
        case first =>
          go_region_held3 (fun W => KN w.heap.size wr W ∧ W.cell? ⟨g, og, none⟩ = some (.int .i64 (n0 : Int)) ∧ W.cell? ⟨g, og + 1, none⟩ = some (.int .i64 (n1 : Int)) ∧ W.cell? ⟨g, og + 2, none⟩ = some (.int .i64 (n2 : Int))) (first | with_reducible exact keepN3 hgw hgw hgw i0 i1 i2 (KN.refl _ wr).drew | (go_split_ands; exact keepN3 hgw hgw hgw i0 i1 i2 (by (repeat (first | with_reducible assumption | with_reducible exact KN.refl _ _ | with_reducible refine KN.drew ?_ | with_reducible refine KN.alloc ?_ _ | ((with_reducible refine KN.setCell ?_ ?_ _); rotate_left; (first | exact Nat.le_refl _ | exact KN.1 (by assumption)))))))) ((go_at_call 19; go_split_ands; refine (HP.out _ (by (repeat (first | with_reducible exact Below.refl _ _ | with_reducible assumption | (with_reducible refine Below.drew ?_) | (with_reducible refine Below.manyDrew ?_ _) | ((with_reducible refine Below.alloc ?_ ?_ _); rotate_left; (focus (first | omega | (dsimp only; omega) | (simp; done) | (simp; omega)))) | ((with_reducible refine Below.setCell ?_ ?_ _); rotate_left; (focus (first | omega | (dsimp only; omega) | (simp; done) | (simp; omega)))) | ((with_reducible refine Below.step ?_ (by assumption) ?_); rotate_left; (focus (first | omega | (dsimp only; omega) | (simp; done) | (simp; omega)))))))).mono ?_; rintro e wn ⟨rfl, hMn, hFn, hKn⟩; (first | (obtain ⟨hbc, hbf⟩ := bcellND HAr.out hFn) | (obtain ⟨hbc, hbf⟩ := bcellNA HAr.out hFn) | skip)))
          all_goals
            go_wp2_with fail
            go_meet
            refine ⟨?_, rfl, rfl⟩
            first
              | with_reducible exact BoxN.mk1 Hbw.out (Below.refl _ _).drew hMn hFn rfl
              | with_reducible exact BoxN.mk2 Hbw.out HAr.out hMn hFn
        case rest =>
        obtain ⟨⟨g9, rfl, hB9, hL9⟩, rfl, rfl⟩ := hcut
        obtain ⟨w2, rfl⟩ : ∃ w2 : World, w2 = wc := ⟨_, rfl⟩
        have HL9 := hid hL9
        by_cases he : er = 0
        rotate_left
        · obtain rfl : ans = nameE er := Hans.out.trans (if_neg he)
          clear hB9 hL9
          go_wp2_with fail
          refine (HE.out _).mono ?_
          rintro e w3 ⟨rfl, hb3⟩
          have HL3 := hid (HL9.out.stepB hb3)
          clear hb3
          go_wp2_with fail
          go_ret
          exact ⟨rfl, HL3.out⟩
        subst he
        replace Hans := hid (Hans.out.trans (if_pos rfl))
        have k1 : w2.cell? ⟨g9, 1, none⟩ = some (.int .i64 (xv : Int)) := hB9.cell 1
        have HB9 := hid hB9
        clear hB9 hL9
        go_wp2_with fail
        refine (HV.out _).mono ?_
        rintro e w3 ⟨rfl, hb3⟩
        have k2 : w3.cell? ⟨g9, 2, none⟩ = some (.int .i64 (xa : Int)) := (HB9.out.belowS hb3).cell 2
        have HL3 := hid (HL9.out.stepB hb3)
        have HB3 := hid (HB9.out.belowS hb3)
        clear hb3 k1 HB9 HL9
        go_wp2_with fail
        refine (HA.out _).mono ?_
        rintro e w4 ⟨rfl, hb4⟩
        have k4 : w4.cell? ⟨g9, 4, none⟩ = some (.string (mkB U)) := (HB3.out.belowS hb4).cell 4
        have k3 : w4.cell? ⟨g9, 3, none⟩ = some (.bool xg) := (HB3.out.belowS hb4).cell 3
        have HL4 := hid (HL3.out.stepB hb4)
        clear hb4 k2 HB3 HL3
        go_upto_if 150 with fail
        go_cut [7] (fun x wx => x = .string (mkB u) ∧ wx = w4)
        case first =>
          rcases xg with _ | _
          · obtain rfl : u = U := Hu.out
            go_wp2_with fail
            go_meet
            exact ⟨rfl, rfl⟩
          · obtain rfl : u = goneT := Hu.out
            go_wp2_with fail
            go_meet
            exact ⟨rfl, rfl⟩
        case rest =>
        obtain ⟨rfl, hwc⟩ := hcut
        obtain rfl : w4 = wc := hwc.symm
        have hus := mkB_size u
        clear k3 k4
        go_upto_if 151 with fail
        go_cut [7] (fun x wx => x = .string (mkB u2) ∧ wx = w4)
        case first =>
          rcases gd with _ | _
          · obtain rfl : u2 = u := Hu2.out.trans (List.append_nil u)
            go_wp2_with fail
            go_meet
            exact ⟨rfl, rfl⟩
          · have q1 : ¬ 9223372036854775807 < u.length + 7 := by omega
            have hE2 : mkB u2 = mkB u ++ ⟨#[32, 99, 97, 99, 104, 101, 100]⟩ := by rw [Hu2.out, ← mkB_append]; rfl
            go_wp2_with fail
            go_meet
            exact ⟨congrArg Value.string hE2.symm, rfl⟩
        case rest =>
        obtain ⟨rfl, hwc⟩ := hcut
        obtain rfl : w4 = wc := hwc.symm
        have hu2s := mkB_size u2
        have hvs := mkB_size V
        have has := mkB_size VA
        have HSt := hid (show mkB V ++ ⟨#[45]⟩ ++ mkB VA ++ ⟨#[32]⟩ ++ mkB u2 = mkB (V ++ [45] ++ (VA ++ ([32] ++ u2))) by
          rw [show (⟨#[45]⟩ : ByteArray) = mkB [45] from rfl, show (⟨#[32]⟩ : ByteArray) = mkB [32] from rfl, mkB_append, mkB_append, mkB_append, mkB_append, List.append_assoc, List.append_assoc, List.append_assoc])
        have q1 : ¬ 9223372036854775807 < V.length + 1 := by omega
        have q2 : ¬ 9223372036854775807 < V.length + 1 + VA.length := by omega
        have q3 : ¬ 9223372036854775807 < V.length + 1 + VA.length + 1 := by omega
        have q4 : ¬ 9223372036854775807 < V.length + 1 + VA.length + 1 + u2.length := by omega
        go_wp2_with fail
        go_ret
        exact ⟨congrArg (fun z => Ending.returned (Value.string z)) (HSt.out.trans (congrArg mkB Hans.out.symm)), HL4.out⟩
  · rw [words_short (S := S) hcs (show wantL getW ≠ some tl.length from fun e => hk (by
      have e2 : some 3 = some tl.length := e
      injection e2 with e2
      exact e2.symm))]
    have hkI : ¬ (3 : Int) = (tl.length : Int) := by omega
    clear hcs htl
    go_enter Tryz.func8, Tryz.ntmps8
    go_wp2_with fail
    refine HF.out.mono ?_
    rintro e w1 ⟨b, off, c, rfl, c0, cs, hc, hbl, hb1⟩
    have q0 : ((mkB getW).toList == [112, 117, 116]) = false := word_is _ (by decide)
    have q1 : ((mkB getW).toList == [100, 101, 108, 101, 116, 101]) = false := word_is _ (by decide)
    have q2 : ((mkB getW).toList == [115, 119, 97, 112]) = false := word_is _ (by decide)
    have q3 : ((mkB getW).toList == [103, 101, 116]) = true := word_is _ (by decide)
    have q4 : ((mkB getW).toList == [115, 101, 113]) = false := word_is _ (by decide)
    have q5 : ((mkB getW).toList == [99, 97, 99, 104, 101]) = false := word_is _ (by decide)
    have q6 : ((mkB getW).toList == [111, 119, 110, 101, 114]) = false := word_is _ (by decide)
    generalize mkB getW = hdB at *
    go_wp2_with fail
    go_ret
    exact ⟨rfl, RLn.none HM.out.1 hb1⟩
end Go.Proofs.YtemhdfodghfkfaaGreatDoor
