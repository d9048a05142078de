/-
  THE REFERENCE's Line, word by word (cache). CONDITIONS: none.
-/
import Derived.Test.YtemhdfodghfkfaaGreatDoorRefKit
namespace Go.Proofs.YtemhdfodghfkfaaGreatDoor
open Go.RowKit
open Go.ChangeShapes Go.WideShapes Go.ChangeAt
variable {base m : Nat} {A : Nat → Prop} {S : RSt}

set_option maxHeartbeats 8000000 in
set_option maxRecDepth 100000 in
theorem rline_cache (l : Tx) (hl : l.length ≤ 3000) (tl : List Tx) (hcs : cutC 32 l = cacheW :: tl) (w : World) (h : RMeshW base w m S.D S.C A) (hB : base ≤ w.heap.size) (hA : ∀ i, A i → i < w.heap.size) (hC : S.C.length ≤ 6) :
    Calls Tryz.prog 8 #[.pointer (some ⟨m, 0, none⟩), .string (mkB l)] w (RLineR base m A w (S.line l)) := by
  have hlen := cutC_len 32 l
  have hmany := cutC_many 32 l
  rw [hcs] at hlen hmany
  have htl : ∀ p ∈ tl, p.length ≤ 3000 := fun p hp => Nat.le_trans (hlen p (List.mem_cons_of_mem _ hp)) hl
  rw [List.length_cons] at hmany
  have HF := hid (front_cut l hl cacheW tl hcs w)
  have HM := hid (And.intro h (And.intro hB (And.intro hA hC)))
  clear h hB hA hC hlen
  by_cases hk : tl.length = 1
  · have hS := by_cache (S := S) hcs hk
    obtain ⟨R, hR⟩ : ∃ R, S.line l = R := ⟨_, rfl⟩
    rw [hR] at hS ⊢
    have HS := hid hS
    clear hcs hS hR
    go_enter Tryz.func8, Tryz.ntmps8
    go_wp2_with fail
    refine HF.out.mono ?_
    rintro e w1 ⟨b, off, c, rfl, c0, cs, hc, hbl, hb1⟩
    have q0 : ((mkB cacheW).toList == [112, 117, 116]) = false := word_is _ (by decide)
    have q1 : ((mkB cacheW).toList == [100, 101, 108, 101, 116, 101]) = false := word_is _ (by decide)
    have q2 : ((mkB cacheW).toList == [115, 119, 97, 112]) = false := word_is _ (by decide)
    have q3 : ((mkB cacheW).toList == [103, 101, 116]) = false := word_is _ (by decide)
    have q4 : ((mkB cacheW).toList == [115, 101, 113]) = false := word_is _ (by decide)
    have q5 : ((mkB cacheW).toList == [99, 97, 99, 104, 101]) = true := word_is _ (by decide)
    have q6 : ((mkB cacheW).toList == [111, 119, 110, 101, 114]) = false := word_is _ (by decide)
    generalize mkB cacheW = hdB at *
    have hcw : ∀ k, 1 ≤ k → k ≤ 1 → w1.cell? ⟨b, off + k, none⟩ = some (.string (mkB (tl.getD (k - 1) []))) := fun k h1 h2 => by
      have := cs (k - 1) (by omega)
      rw [show k - 1 + 1 = k by omega] at this
      rw [this, List.getD_eq_getElem?_getD, List.getElem?_eq_getElem (by omega : k - 1 < tl.length)]
      rfl
    obtain ⟨ws, hws⟩ : ∃ ws : List Tx, ws = tl := ⟨_, rfl⟩
    have hwl : ws.length = 1 := by rw [hws]; exact hk
    have hwx : ∀ p ∈ ws, p.length ≤ 3000 := by rw [hws]; exact htl
    rw [← hws] at hcw HS
    rw [hk] at *
    clear cs htl hws hmany
    have Hcw := hid hcw
    have Hwx := hid hwx
    have Hb1 := hid hb1
    have hz1 := hb1.size
    clear hcw hwx hb1
    go_wp2_with fail
    go_loopw [8, 9] (fun v i wr => ∃ (k : Nat) (ns : List Nat), 1 ≤ k ∧ k ≤ 2 ∧ i = .int .i64 k ∧ ns.length = k - 1 ∧ numsL (ws.take (k - 1)) = some ns ∧ Ow cellI 1 w1.heap.size 3 wr v (ns.map (fun (n : Nat) => (n : Int))) ∧ Below w1.heap.size w1 wr) (fun _ i _ => 2 - (intOf i).toNat)
    case atStart => exact ⟨1, [], Nat.le_refl _, by omega, rfl, rfl, rfl, Ow.nil _ _ _ _ _, Below.refl _ _⟩
    case round =>
      obtain ⟨k, ns, hk1, hk2, rfl, hnl, hns, hO, hbr⟩ := hrel
      have hzr := hbr.size
      have HO := hid hO
      have Hns := hid hns
      have Hbr := hid hbr
      clear hO hns hbr
      by_cases hlt : k ≤ 1
      · have hkI : (k : Int) ≤ 1 := by omega
        have hx := (Hbr.out.cell (p := ⟨b, off + k, none⟩) hbl).trans (Hcw.out k hk1 hlt)
        obtain ⟨x, hxe⟩ : ∃ x, ws.getD (k - 1) [] = x := ⟨_, rfl⟩
        rw [hxe] at hx
        have hxm : x ∈ ws := by
          rw [← hxe, List.getD_eq_getElem?_getD, List.getElem?_eq_getElem (by omega : k - 1 < ws.length)]
          exact List.getElem_mem _
        have htd := words_split (k := k - 1) (by omega : k - 1 < ws.length) hxe
        have hxl := Hwx.out x hxm
        have HN := hid (rnumber_any x (by omega) wr)
        have Htd := hid htd
        clear hxm htd hxe
        cases hN : numL x with
        | none =>
          have hbad : numsL ws = none := by rw [Htd.out.1]; exact numsL_bad _ _ _ hN
          obtain rfl := HS.out.1 hbad
          rw [hN] at HN
          have HN1 := hid (show Calls Tryz.prog 16 #[.string (mkB x)] wr (fun e w' => e = .returned (.tuple #[.int .i64 0, .bool false]) ∧ wr = w') from HN.out)
          clear hN hbad HN
          go_wp2_with fail
          refine HN1.out.mono ?_
          rintro e w2 ⟨rfl, rfl⟩
          clear HN1
          go_wp2_with fail
          go_ret
          exact ⟨rfl, RLn.none HM.out.1 (Below.step Hb1.out Hbr.out hz1)⟩
        | some n =>
          rw [hN] at HN
          have HN1 := hid (show Calls Tryz.prog 16 #[.string (mkB x)] wr (fun e w' => e = .returned (.tuple #[.int .i64 (n : Int), .bool true]) ∧ wr = w') from HN.out)
          have hnew : numsL (ws.take (k - 1 + 1)) = some (ns ++ [n]) := by rw [Htd.out.2, numsL_snoc, Hns.out, hN]
          have Hnew := hid hnew
          have hnl1 : (ns.map (fun (n : Nat) => (n : Int))).length = k - 1 := by rw [List.length_map]; exact hnl
          clear hN hnew HN
          go_wp2_with fail
          refine HN1.out.mono ?_
          rintro e w2 ⟨rfl, rfl⟩
          clear HN1
          go_wp2_with (at_builtin; refine appI _ w1.heap.size _ (ns.map (fun (n : Nat) => (n : Int))) (n : Int) HO.out rfl _ _ rfl rfl rfl ?_ ?_ ?_ ?_)
          any_goals (first | (with_reducible rfl) | omega | exact World.size_alloc _ _ | (show _ ≤ _; rw [World.size_alloc]; omega))
          intro v8 w8 h8 f8 o8
          have hb8 : Below w1.heap.size w1 w8 := Hbr.out.trans (f8.below0 hzr (fun i hi => HO.out.ge _ hi))
          go_wp2_with fail
          go_roundw
          case rel => exact ⟨k + 1, ns ++ [n], by omega, by omega, by go_num, by rw [List.length_append, List.length_singleton, hnl]; omega, by rw [show k + 1 - 1 = k - 1 + 1 by omega]; exact Hnew.out, by rw [List.map_append]; exact h8, hb8⟩
          case measure => simp [intOf]; omega
      · obtain rfl : k = 2 := by omega
        have hfull : numsL ws = some ns := by
          have := Hns.out
          rwa [List.take_of_length_le (by omega)] at this
        match ns, hnl with
        | [n0], _ =>
        have hRS := HS.out.2 _ hfull
        have c0r := (Hbr.out.cell (p := ⟨b, off, none⟩) hbl).trans c0
        obtain ⟨g, og, cap, rfl, hc1, hc2, hg1, hg2, hg3, hgc, -⟩ := HO.out.get (by simp)
        have i0 : wr.cell? ⟨g, og, none⟩ = some (.int .i64 (n0 : Int)) := by simpa [cellI] using hgc 0 (by simp) 0 (by decide)
        simp only [List.length_map, List.length_cons, List.length_nil] at hc1
        have hgw : w.heap.size ≤ g := Nat.le_trans hz1 hg1
        have Hbw := hid (Below.step Hb1.out Hbr.out hz1)
        have HMr := hid (HM.out.1.belowS Hbw.out)
        clear HS hfull Hcw Hwx HO Hns c0 hbl Hbr Hb1
        obtain ⟨gC, cC⟩ := HMr.out.cC
        have hCl := HM.out.2.2.2
        have hml := HMr.out.lt.2
        by_cases hin : n0 < S.C.length
        rotate_left
        · have hni : inM S.C.length (n0 : Int) = false := inM_false.2 (.inr (by omega))
          obtain rfl : R = (nameE 1, S) := by rw [hRS, hni]; rfl
          have HE := hid (rname_any 1 (by decide) (by decide))
          have hge : (S.C.length : Int) ≤ (n0 : Int) := by omega
          clear hRS hni hin
          generalize S.C.length = cl at *
          go_upto_region 61 with fail
          go_quiet (fail)
          go_wp2_with fail
          refine (HE.out _).mono ?_
          rintro e w3 ⟨rfl, hb3⟩
          have Hb3 := hid (Hbw.out.trans (Below.mono (Below.step (Below.manyDrew (Below.refl _ _) _) hb3 (Nat.le_refl _)) Hbw.out.size))
          clear hb3 HE
          go_wp2_with fail
          go_ret
          exact ⟨rfl, RLn.none HM.out.1 Hb3.out⟩
        have hni : inM S.C.length (n0 : Int) = true := inM_true.2 ⟨by omega, by omega⟩
        obtain ⟨gD, y, c1', c2', hgD, hyx, hyE⟩ := HMr.out.c1 hin
        have hgg : gD = gC := by
          rw [c1'] at cC
          injection cC with cC
          injection cC with cC
          injection cC with cC
          injection cC
        subst hgg
        have hchk := (HMr.out.cac _ (show S.C.getD n0 [] ∈ S.C by rw [getD_get _ hin]; exact List.getElem_mem _)).1
        obtain ⟨A0, cy, xs⟩ := y
        obtain rfl : R = (cacheT xs, S) := by rw [hRS, hni, if_pos rfl, ← hyx]
        obtain rfl : xs = S.C.getD n0 [] := hyx
        obtain ⟨hl8, hkeys, -, -⟩ := chkC_ok hchk
        have HK := hid hkeys
        have HE := hid hyE
        generalize S.C.getD n0 [] = xs at *
        have hlt0 : (n0 : Int) < (S.C.length : Int) := by omega
        generalize S.C.length = cl at *
        clear hRS hni hchk hkeys hyE c1'
        simp only at c2'
        obtain ⟨wq, rfl⟩ : ∃ wq : World, wq = wr := ⟨_, rfl⟩
        go_upto_region 61 with fail
        go_quiet (fail)
        go_wp2_with fail
        go_loopw [7, 22] (fun t i wx => ∃ k : Nat, k ≤ xs.length ∧ i = .int .i64 k ∧ t = .string (mkB (keysT (xs.take k))) ∧ Below wq.heap.size wq wx) (fun _ i _ => xs.length - (intOf i).toNat)
        case atStart => exact ⟨0, Nat.zero_le _, rfl, rfl, Below.manyDrew (Below.refl _ _) _⟩
        case round =>
          obtain ⟨k, hk, rfl, rfl, hbr⟩ := hrel
          have Hbr := hid hbr
          have j0 := (hbr.cell (p := ⟨g, og, none⟩) hg2).trans i0
          have j1 := (hbr.cell (p := ⟨m, 1, none⟩) hml).trans cC
          have j2 := (hbr.cell (p := ⟨gD, n0, none⟩) hgD).trans c2'
          by_cases hlt : k < xs.length
          · obtain ⟨gE, oE, hA0, hgE, hcells⟩ := HE.out.entries.get (show 0 < xs.length by omega)
            obtain ⟨k0, -, -, -, -⟩ := (hcells k hlt).stays hbr hgE
            have hky := chk_key (HK.out _ (getD_mem hlt))
            have htk : xs.take (k + 1) = xs.take k ++ [xs.getD k E.zero] := by
              rw [List.take_succ_eq_append_getElem hlt, List.getD_eq_getElem?_getD, List.getElem?_eq_getElem hlt]
              rfl
            obtain ⟨n, hn⟩ : ∃ n : Nat, n = (xs.getD k E.zero).key.toNat := ⟨_, rfl⟩
            have hTl : (keysT (xs.take k)).length ≤ 1000 := by
              have := keysT_len (xs.take k)
              rw [List.length_take] at this
              omega
            have hnew : keysT (xs.take (k + 1)) = keysT (xs.take k) ++ (if k = 0 then [] else [32]) ++ digN n := by
              rw [htk]
              by_cases h0 : k = 0
              · subst h0
                rw [if_pos rfl, hn]
                rfl
              · rw [if_neg h0, keysT_snoc _ _ (fun e => by have := congrArg List.length e; rw [List.length_take, List.length_nil] at this; omega), ← hn, List.append_assoc]
                rfl
            rw [show (xs.getD k E.zero).key = (n : Int) by omega] at k0
            have HN := hid (fun W => rdigq_any n (by omega) W)
            have hdl := (digN_len n).2
            have hds := mkB_size (digN n)
            have hts := mkB_size (keysT (xs.take k))
            have hT0 : k = 0 → keysT (xs.take k) = [] := fun h => by subst h; rfl
            generalize keysT (xs.take k) = T at *
            generalize digN n = dg at *
            obtain rfl : A0 = some ⟨gE, oE, none⟩ := hA0
            have Hnew := hid hnew
            have hlt' : (k : Int) < (xs.length : Int) := by omega
            clear hcells hky htk hn hnew hbr
            go_upto_region 65 with fail
            go_quiet (fail)
            obtain ⟨w2, hw2⟩ : ∃ w2 : World, w2 = wr.drewN nq := ⟨_, rfl⟩
            rw [← hw2]
            have hb2 : Below wr.heap.size wr w2 := by rw [hw2]; exact Below.manyDrew (Below.refl _ _) _
            have Hb2 := hid (bstep Hbr.out hb2)
            replace k0 := (hb2.cell (p := ⟨gE, oE + k * 5, none⟩) (Nat.lt_of_lt_of_le hgE Hbr.out.size)).trans k0
            replace j0 := (Hb2.out.cell (p := ⟨g, og, none⟩) hg2).trans i0
            replace j1 := (Hb2.out.cell (p := ⟨m, 1, none⟩) hml).trans cC
            replace j2 := (Hb2.out.cell (p := ⟨gD, n0, none⟩) hgD).trans c2'
            clear hw2 hb2
            by_cases h0 : k = 0
            · obtain rfl := hT0 h0
              have hk0' : ¬ (0 : Int) < (k : Int) := by omega
              have Hnew2 := hid (Hnew.out.trans (by rw [if_pos h0, List.append_nil]))
              clear hT0 h0 Hnew
              go_upto_region 69 with fail
              go_quiet ((go_at_call 9; exact Calls.quiet_of_same (HN.out _)))
              go_wp2_with fail
              go_roundw
              case rel => exact ⟨k + 1, by omega, by go_num, by rw [Hnew2.out, ← mkB_append], Below.manyDrew Hb2.out _⟩
              case measure => simp [intOf]; omega
            · have hk0' : (0 : Int) < (k : Int) := by omega
              have q1 : ¬ 9223372036854775807 < T.length + 1 := by omega
              have q2 : ¬ 9223372036854775807 < T.length + 1 + dg.length := by omega
              have Hnew2 := hid (Hnew.out.trans (by rw [if_neg h0]))
              clear hT0 h0 Hnew
              go_upto_region 69 with fail
              go_quiet ((go_at_call 9; exact Calls.quiet_of_same (HN.out _)))
              go_wp2_with fail
              go_roundw
              case rel => exact ⟨k + 1, by omega, by go_num, by rw [Hnew2.out, ← mkB_append, ← mkB_append]; rfl, Below.manyDrew Hb2.out _⟩
              case measure => simp [intOf]; omega
          · obtain rfl : k = xs.length := by omega
            have hnlt : ¬ (xs.length : Int) < (xs.length : Int) := by omega
            rw [List.take_length]
            by_cases hx : xs = []
            · subst hx
              have qe : ((mkB (keysT [])).toList == []) = true := word_is _ rfl
              generalize mkB (keysT []) = tB at *
              clear hbr
              go_upto_region 65 with fail
              go_quiet (fail)
              go_wp2_with fail
              go_ret
              exact ⟨rfl, RLn.none HM.out.1 (Hbw.out.trans ((Below.manyDrew Hbr.out _).mono Hbw.out.size))⟩
            · have qe : ((mkB (keysT xs)).toList == []) = false := word_is _ (beq_eq_false_iff_ne.2 (keysT_ne hx))
              have hct : mkB (cacheT xs) = mkB (keysT xs) := by rw [cacheT, if_neg hx]
              have Hct := hid hct
              generalize mkB (keysT xs) = tB at *
              clear hbr hct
              go_upto_region 65 with fail
              go_quiet (fail)
              go_wp2_with fail
              go_ret
              exact ⟨congrArg (fun z => Ending.returned (Value.string z)) Hct.out.symm, RLn.none HM.out.1 (Hbw.out.trans ((Below.manyDrew Hbr.out _).mono Hbw.out.size))⟩
  · rw [words_short (S := S) hcs (show wantL cacheW ≠ some tl.length from fun e => hk (by
      have e2 : some 1 = some tl.length := e
      injection e2 with e2
      exact e2.symm))]
    have hkI : ¬ (1 : Int) = (tl.length : Int) := by omega
    clear hcs htl
    go_enter Tryz.func8, Tryz.ntmps8
    go_wp2_with fail
    refine HF.out.mono ?_
    rintro e w1 ⟨b, off, c, rfl, c0, cs, hc, hbl, hb1⟩
    have q0 : ((mkB cacheW).toList == [112, 117, 116]) = false := word_is _ (by decide)
    have q1 : ((mkB cacheW).toList == [100, 101, 108, 101, 116, 101]) = false := word_is _ (by decide)
    have q2 : ((mkB cacheW).toList == [115, 119, 97, 112]) = false := word_is _ (by decide)
    have q3 : ((mkB cacheW).toList == [103, 101, 116]) = false := word_is _ (by decide)
    have q4 : ((mkB cacheW).toList == [115, 101, 113]) = false := word_is _ (by decide)
    have q5 : ((mkB cacheW).toList == [99, 97, 99, 104, 101]) = true := word_is _ (by decide)
    have q6 : ((mkB cacheW).toList == [111, 119, 110, 101, 114]) = false := word_is _ (by decide)
    generalize mkB cacheW = hdB at *
    go_wp2_with fail
    go_ret
    exact ⟨rfl, RLn.none HM.out.1 hb1⟩
end Go.Proofs.YtemhdfodghfkfaaGreatDoor
