/-
  THE REFERENCE's Line, word by word (other, seq, swap). CONDITIONS: none.
-/
import Derived.Test.YtemhdfodghfkfaaGreatDoorRefKit
namespace Go.Proofs.YtemhdfodghfkfaaGreatDoor
open Go.RowKit
open Go.ChangeShapes Go.WideShapes Go.ChangeAt
variable {base m : Nat} {A : Nat → Prop} {S : RSt}

set_option maxHeartbeats 8000000 in
set_option maxRecDepth 100000 in
theorem rline_other (l : Tx) (hl : l.length ≤ 3000) (hd : Tx) (tl : List Tx) (hcs : cutC 32 l = hd :: tl) (h0 : hd ≠ putW) (h1 : hd ≠ deleteW) (h2 : hd ≠ swapW) (h3 : hd ≠ getW) (h4 : hd ≠ seqW) (h5 : hd ≠ cacheW) (h6 : hd ≠ ownerW) (w : World) (h : RMeshW base w m S.D S.C A) :
    Calls Tryz.prog 8 #[.pointer (some ⟨m, 0, none⟩), .string (mkB l)] w (RLineR base m A w (S.line l)) := by
  have hw : wantL hd = none := by
    unfold wantL
    rw [if_neg h0, if_neg (fun e => e.elim h1 h2), if_neg h3, if_neg h4, if_neg (fun e => e.elim h5 h6)]
  have HF := hid (front_cut l hl hd tl hcs w)
  have HM := hid h
  rw [words_short (S := S) hcs (show wantL hd ≠ some tl.length from fun e => by rw [hw] at e; cases e)]
  have hmany := cutC_many 32 l
  rw [hcs, List.length_cons] at hmany
  have hkI : ¬ (-1 : Int) = (tl.length : Int) := by omega
  have q0 : ((mkB hd).toList == [112, 117, 116]) = false := word_is _ (beq_eq_false_iff_ne.2 h0)
  have q1 : ((mkB hd).toList == [100, 101, 108, 101, 116, 101]) = false := word_is _ (beq_eq_false_iff_ne.2 h1)
  have q2 : ((mkB hd).toList == [115, 119, 97, 112]) = false := word_is _ (beq_eq_false_iff_ne.2 h2)
  have q3 : ((mkB hd).toList == [103, 101, 116]) = false := word_is _ (beq_eq_false_iff_ne.2 h3)
  have q4 : ((mkB hd).toList == [115, 101, 113]) = false := word_is _ (beq_eq_false_iff_ne.2 h4)
  have q5 : ((mkB hd).toList == [99, 97, 99, 104, 101]) = false := word_is _ (beq_eq_false_iff_ne.2 h5)
  have q6 : ((mkB hd).toList == [111, 119, 110, 101, 114]) = false := word_is _ (beq_eq_false_iff_ne.2 h6)
  clear hcs hw h h0 h1 h2 h3 h4 h5 h6
  go_enter Tryz.func8, Tryz.ntmps8
  go_wp2_with fail
  refine HF.out.mono ?_
  rintro e w1 ⟨b, off, c, rfl, c0, cs, hc, hbl, hb1⟩
  generalize mkB hd = hdB at *
  go_wp2_with fail
  go_ret
  exact ⟨rfl, RLn.none HM.out hb1⟩
set_option maxHeartbeats 8000000 in
set_option maxRecDepth 100000 in
theorem rline_seq (l : Tx) (hl : l.length ≤ 3000) (tl : List Tx) (hcs : cutC 32 l = seqW :: tl) (w : World) (h : RMeshW base w m S.D S.C A) (hB : base ≤ w.heap.size) (hA : ∀ i, A i → i < w.heap.size) (hC : S.C.length ≤ 6) :
    Calls Tryz.prog 8 #[.pointer (some ⟨m, 0, none⟩), .string (mkB l)] w (RLineR base m A w (S.line l)) := by
  have hlen := cutC_len 32 l
  have hmany := cutC_many 32 l
  rw [hcs] at hlen hmany
  have htl : ∀ p ∈ tl, p.length ≤ 3000 := fun p hp => Nat.le_trans (hlen p (List.mem_cons_of_mem _ hp)) hl
  rw [List.length_cons] at hmany
  have HF := hid (front_cut l hl seqW tl hcs w)
  have HM := hid (And.intro h (And.intro hB (And.intro hA hC)))
  clear h hB hA hC hlen
  by_cases hk : tl.length = 0
  · have hS := by_seq (S := S) hcs hk
    obtain ⟨R, hR⟩ : ∃ R, S.line l = R := ⟨_, rfl⟩
    rw [hR] at hS ⊢
    have HS := hid hS
    clear hcs hS hR
    go_enter Tryz.func8, Tryz.ntmps8
    go_wp2_with fail
    refine HF.out.mono ?_
    rintro e w1 ⟨b, off, c, rfl, c0, cs, hc, hbl, hb1⟩
    have q0 : ((mkB seqW).toList == [112, 117, 116]) = false := word_is _ (by decide)
    have q1 : ((mkB seqW).toList == [100, 101, 108, 101, 116, 101]) = false := word_is _ (by decide)
    have q2 : ((mkB seqW).toList == [115, 119, 97, 112]) = false := word_is _ (by decide)
    have q3 : ((mkB seqW).toList == [103, 101, 116]) = false := word_is _ (by decide)
    have q4 : ((mkB seqW).toList == [115, 101, 113]) = true := word_is _ (by decide)
    have q5 : ((mkB seqW).toList == [99, 97, 99, 104, 101]) = false := word_is _ (by decide)
    have q6 : ((mkB seqW).toList == [111, 119, 110, 101, 114]) = false := word_is _ (by decide)
    generalize mkB seqW = hdB at *
    have hcw : ∀ k, 1 ≤ k → k ≤ 0 → w1.cell? ⟨b, off + k, none⟩ = some (.string (mkB (tl.getD (k - 1) []))) := fun k h1 h2 => by
      have := cs (k - 1) (by omega)
      rw [show k - 1 + 1 = k by omega] at this
      rw [this, List.getD_eq_getElem?_getD, List.getElem?_eq_getElem (by omega : k - 1 < tl.length)]
      rfl
    obtain ⟨ws, hws⟩ : ∃ ws : List Tx, ws = tl := ⟨_, rfl⟩
    have hwl : ws.length = 0 := by rw [hws]; exact hk
    have hwx : ∀ p ∈ ws, p.length ≤ 3000 := by rw [hws]; exact htl
    rw [← hws] at hcw HS
    rw [hk] at *
    clear cs htl hws hmany
    have Hcw := hid hcw
    have Hwx := hid hwx
    have Hb1 := hid hb1
    have hz1 := hb1.size
    clear hcw hwx hb1
    go_wp2_with fail
    go_loopw [8, 9] (fun v i wr => ∃ (k : Nat) (ns : List Nat), 1 ≤ k ∧ k ≤ 1 ∧ i = .int .i64 k ∧ ns.length = k - 1 ∧ numsL (ws.take (k - 1)) = some ns ∧ Ow cellI 1 w1.heap.size 3 wr v (ns.map (fun (n : Nat) => (n : Int))) ∧ Below w1.heap.size w1 wr) (fun _ i _ => 1 - (intOf i).toNat)
    case atStart => exact ⟨1, [], Nat.le_refl _, by omega, rfl, rfl, rfl, Ow.nil _ _ _ _ _, Below.refl _ _⟩
    case round =>
      obtain ⟨k, ns, hk1, hk2, rfl, hnl, hns, hO, hbr⟩ := hrel
      have hzr := hbr.size
      have HO := hid hO
      have Hns := hid hns
      have Hbr := hid hbr
      clear hO hns hbr
      obtain rfl : k = 1 := by omega
      have hfull : numsL ws = some ns := by
        have := Hns.out
        rwa [List.take_of_length_le (by omega)] at this
      obtain rfl : ns = [] := List.length_eq_zero_iff.1 hnl
      have hRS := HS.out.2 hfull
      have c0r := (Hbr.out.cell (p := ⟨b, off, none⟩) hbl).trans c0
      have Hbw := hid (Below.step Hb1.out Hbr.out hz1)
      have HMr := hid (HM.out.1.belowS Hbw.out)
      clear HS hfull Hcw Hwx HO Hns c0 hbl Hbr Hb1
      obtain ⟨bS, BS, cS, m0, m1, m2⟩ := HMr.out.c0
      have hD : S.D.length < 10000 := by have := HMr.out.deeds.len; omega
      have HG := hid (rdig_any S.D.length hD wr)
      obtain rfl : R = (digN S.D.length, S) := hRS
      generalize S.D.length = dl at *
      clear hD
      go_wp2_with fail
      refine HG.out.mono ?_
      rintro e w3 ⟨rfl, hb3⟩
      have Hb3 := hid (Hbw.out.trans (hb3.mono Hbw.out.size))
      clear hb3 HG
      go_wp2_with fail
      go_ret
      exact ⟨rfl, RLn.none HM.out.1 Hb3.out⟩
  · rw [words_short (S := S) hcs (show wantL seqW ≠ some tl.length from fun e => hk (by
      have e2 : some 0 = some tl.length := e
      injection e2 with e2
      exact e2.symm))]
    have hkI : ¬ (0 : Int) = (tl.length : Int) := by omega
    clear hcs htl
    go_enter Tryz.func8, Tryz.ntmps8
    go_wp2_with fail
    refine HF.out.mono ?_
    rintro e w1 ⟨b, off, c, rfl, c0, cs, hc, hbl, hb1⟩
    have q0 : ((mkB seqW).toList == [112, 117, 116]) = false := word_is _ (by decide)
    have q1 : ((mkB seqW).toList == [100, 101, 108, 101, 116, 101]) = false := word_is _ (by decide)
    have q2 : ((mkB seqW).toList == [115, 119, 97, 112]) = false := word_is _ (by decide)
    have q3 : ((mkB seqW).toList == [103, 101, 116]) = false := word_is _ (by decide)
    have q4 : ((mkB seqW).toList == [115, 101, 113]) = true := word_is _ (by decide)
    have q5 : ((mkB seqW).toList == [99, 97, 99, 104, 101]) = false := word_is _ (by decide)
    have q6 : ((mkB seqW).toList == [111, 119, 110, 101, 114]) = false := word_is _ (by decide)
    generalize mkB seqW = hdB at *
    go_wp2_with fail
    go_ret
    exact ⟨rfl, RLn.none HM.out.1 hb1⟩
set_option maxHeartbeats 8000000 in
set_option maxRecDepth 100000 in
theorem rline_swap (l : Tx) (hl : l.length ≤ 3000) (tl : List Tx) (hcs : cutC 32 l = swapW :: tl) (w : World) (h : RMeshW base w m S.D S.C A) (hB : base ≤ w.heap.size) (hA : ∀ i, A i → i < w.heap.size) (hC : S.C.length ≤ 6) :
    Calls Tryz.prog 8 #[.pointer (some ⟨m, 0, none⟩), .string (mkB l)] w (RLineR base m A w (S.line l)) := by
  have hlen := cutC_len 32 l
  have hmany := cutC_many 32 l
  rw [hcs] at hlen hmany
  have htl : ∀ p ∈ tl, p.length ≤ 3000 := fun p hp => Nat.le_trans (hlen p (List.mem_cons_of_mem _ hp)) hl
  rw [List.length_cons] at hmany
  have HF := hid (front_cut l hl swapW tl hcs w)
  have HM := hid (And.intro h (And.intro hB (And.intro hA hC)))
  clear h hB hA hC hlen
  by_cases hk : tl.length = 2
  · have hS := by_swap (S := S) hcs hk
    obtain ⟨R, hR⟩ : ∃ R, S.line l = R := ⟨_, rfl⟩
    rw [hR] at hS ⊢
    have HS := hid hS
    clear hcs hS hR
    go_enter Tryz.func8, Tryz.ntmps8
    go_wp2_with fail
    refine HF.out.mono ?_
    rintro e w1 ⟨b, off, c, rfl, c0, cs, hc, hbl, hb1⟩
    have q0 : ((mkB swapW).toList == [112, 117, 116]) = false := word_is _ (by decide)
    have q1 : ((mkB swapW).toList == [100, 101, 108, 101, 116, 101]) = false := word_is _ (by decide)
    have q2 : ((mkB swapW).toList == [115, 119, 97, 112]) = true := word_is _ (by decide)
    have q3 : ((mkB swapW).toList == [103, 101, 116]) = false := word_is _ (by decide)
    have q4 : ((mkB swapW).toList == [115, 101, 113]) = false := word_is _ (by decide)
    have q5 : ((mkB swapW).toList == [99, 97, 99, 104, 101]) = false := word_is _ (by decide)
    have q6 : ((mkB swapW).toList == [111, 119, 110, 101, 114]) = false := word_is _ (by decide)
    generalize mkB swapW = hdB at *
    have hcw : ∀ k, 1 ≤ k → k ≤ 2 → w1.cell? ⟨b, off + k, none⟩ = some (.string (mkB (tl.getD (k - 1) []))) := fun k h1 h2 => by
      have := cs (k - 1) (by omega)
      rw [show k - 1 + 1 = k by omega] at this
      rw [this, List.getD_eq_getElem?_getD, List.getElem?_eq_getElem (by omega : k - 1 < tl.length)]
      rfl
    obtain ⟨ws, hws⟩ : ∃ ws : List Tx, ws = tl := ⟨_, rfl⟩
    have hwl : ws.length = 2 := by rw [hws]; exact hk
    have hwx : ∀ p ∈ ws, p.length ≤ 3000 := by rw [hws]; exact htl
    rw [← hws] at hcw HS
    rw [hk] at *
    clear cs htl hws hmany
    have Hcw := hid hcw
    have Hwx := hid hwx
    have Hb1 := hid hb1
    have hz1 := hb1.size
    clear hcw hwx hb1
    go_wp2_with fail
    go_loopw [8, 9] (fun v i wr => ∃ (k : Nat) (ns : List Nat), 1 ≤ k ∧ k ≤ 3 ∧ i = .int .i64 k ∧ ns.length = k - 1 ∧ numsL (ws.take (k - 1)) = some ns ∧ Ow cellI 1 w1.heap.size 3 wr v (ns.map (fun (n : Nat) => (n : Int))) ∧ Below w1.heap.size w1 wr) (fun _ i _ => 3 - (intOf i).toNat)
    case atStart => exact ⟨1, [], Nat.le_refl _, by omega, rfl, rfl, rfl, Ow.nil _ _ _ _ _, Below.refl _ _⟩
    case round =>
      obtain ⟨k, ns, hk1, hk2, rfl, hnl, hns, hO, hbr⟩ := hrel
      have hzr := hbr.size
      have HO := hid hO
      have Hns := hid hns
      have Hbr := hid hbr
      clear hO hns hbr
      by_cases hlt : k ≤ 2
      · have hkI : (k : Int) ≤ 2 := by omega
        have hx := (Hbr.out.cell (p := ⟨b, off + k, none⟩) hbl).trans (Hcw.out k hk1 hlt)
        obtain ⟨x, hxe⟩ : ∃ x, ws.getD (k - 1) [] = x := ⟨_, rfl⟩
        rw [hxe] at hx
        have hxm : x ∈ ws := by
          rw [← hxe, List.getD_eq_getElem?_getD, List.getElem?_eq_getElem (by omega : k - 1 < ws.length)]
          exact List.getElem_mem _
        have htd := words_split (k := k - 1) (by omega : k - 1 < ws.length) hxe
        have hxl := Hwx.out x hxm
        have HN := hid (rnumber_any x (by omega) wr)
        have Htd := hid htd
        clear hxm htd hxe
        cases hN : numL x with
        | none =>
          have hbad : numsL ws = none := by rw [Htd.out.1]; exact numsL_bad _ _ _ hN
          obtain rfl := HS.out.1 hbad
          rw [hN] at HN
          have HN1 := hid (show Calls Tryz.prog 16 #[.string (mkB x)] wr (fun e w' => e = .returned (.tuple #[.int .i64 0, .bool false]) ∧ wr = w') from HN.out)
          clear hN hbad HN
          go_wp2_with fail
          refine HN1.out.mono ?_
          rintro e w2 ⟨rfl, rfl⟩
          clear HN1
          go_wp2_with fail
          go_ret
          exact ⟨rfl, RLn.none HM.out.1 (Below.step Hb1.out Hbr.out hz1)⟩
        | some n =>
          rw [hN] at HN
          have HN1 := hid (show Calls Tryz.prog 16 #[.string (mkB x)] wr (fun e w' => e = .returned (.tuple #[.int .i64 (n : Int), .bool true]) ∧ wr = w') from HN.out)
          have hnew : numsL (ws.take (k - 1 + 1)) = some (ns ++ [n]) := by rw [Htd.out.2, numsL_snoc, Hns.out, hN]
          have Hnew := hid hnew
          have hnl1 : (ns.map (fun (n : Nat) => (n : Int))).length = k - 1 := by rw [List.length_map]; exact hnl
          clear hN hnew HN
          go_wp2_with fail
          refine HN1.out.mono ?_
          rintro e w2 ⟨rfl, rfl⟩
          clear HN1
          go_wp2_with (at_builtin; refine appI _ w1.heap.size _ (ns.map (fun (n : Nat) => (n : Int))) (n : Int) HO.out rfl _ _ rfl rfl rfl ?_ ?_ ?_ ?_)
          any_goals (first | (with_reducible rfl) | omega | exact World.size_alloc _ _ | (show _ ≤ _; rw [World.size_alloc]; omega))
          intro v8 w8 h8 f8 o8
          have hb8 : Below w1.heap.size w1 w8 := Hbr.out.trans (f8.below0 hzr (fun i hi => HO.out.ge _ hi))
          go_wp2_with fail
          go_roundw
          case rel => exact ⟨k + 1, ns ++ [n], by omega, by omega, by go_num, by rw [List.length_append, List.length_singleton, hnl]; omega, by rw [show k + 1 - 1 = k - 1 + 1 by omega]; exact Hnew.out, by rw [List.map_append]; exact h8, hb8⟩
          case measure => simp [intOf]; omega
      · obtain rfl : k = 3 := by omega
        have hfull : numsL ws = some ns := by
          have := Hns.out
          rwa [List.take_of_length_le (by omega)] at this
        match ns, hnl with
        | [n0, n1], _ =>
        have hRS := HS.out.2 _ _ hfull
        have c0r := (Hbr.out.cell (p := ⟨b, off, none⟩) hbl).trans c0
        obtain ⟨g, og, cap, rfl, hc1, hc2, hg1, hg2, hg3, hgc, -⟩ := HO.out.get (by simp)
        have i0 : wr.cell? ⟨g, og, none⟩ = some (.int .i64 (n0 : Int)) := by simpa [cellI] using hgc 0 (by simp) 0 (by decide)
        have i1 : wr.cell? ⟨g, og + 1, none⟩ = some (.int .i64 (n1 : Int)) := by simpa [cellI] using hgc 1 (by simp) 0 (by decide)
        simp only [List.length_map, List.length_cons, List.length_nil] at hc1
        have hgw : w.heap.size ≤ g := Nat.le_trans hz1 hg1
        have Hbw := hid (Below.step Hb1.out Hbr.out hz1)
        have HMr := hid (HM.out.1.belowS Hbw.out)
        clear HS hfull Hcw Hwx HO Hns c0 hbl Hbr Hb1
        obtain ⟨-, g2, g3⟩ := mswapR_facts S.C (n0 : Int) (n1 : Int)
        have HP := hid (fun W (hW : Below wr.heap.size wr W) => (rmswapW (n0 : Int) (n1 : Int) W (HMr.out.belowS hW) (Nat.le_trans HM.out.2.1 (Nat.le_trans Hbw.out.size hW.size))).mono (fun e X hh => (show e = .returned (.int .i64 (mswapR S.C (n0 : Int) (n1 : Int)).1) ∧ RLn base m A w ⟨S.D, (mswapR S.C (n0 : Int) (n1 : Int)).2⟩ X ∧ KN w.heap.size wr X from ⟨hh.1, RLn.of (Hbw.out.trans (hW.mono Hbw.out.size)) hh.2.1 hh.2.2, ((KN.refl _ wr).below hW).fr hh.2.2 HM.out.2.2.1⟩)))
        generalize mswapR S.C (n0 : Int) (n1 : Int) = r at *
        obtain ⟨er, C'⟩ := r
        simp only at g2 g3 HP hRS
        have HE := hid (fun W => rname_any er g2 g3 W)
        obtain ⟨ans, hans⟩ : ∃ ans, ans = if er = 0 then okT else nameE er := ⟨_, rfl⟩
        rw [← hans] at hRS
        obtain rfl : R = (ans, ⟨S.D, C'⟩) := hRS
        have Hans := hid hans
        clear g2 g3 hans
        go_upto_region 56 with fail
        go_region_held3 (fun W => KN w.heap.size wr W ∧ W.cell? ⟨g, og, none⟩ = some (.int .i64 (n0 : Int)) ∧ W.cell? ⟨g, og + 1, none⟩ = some (.int .i64 (n1 : Int))) (first | with_reducible exact keepN2 hgw hgw i0 i1 (KN.refl _ wr).drew | (go_split_ands; exact keepN2 hgw hgw i0 i1 (by (repeat (first | with_reducible assumption | with_reducible exact KN.refl _ _ | with_reducible refine KN.drew ?_))))) ((go_at_call 20; go_split_ands; refine (HP.out _ (by (repeat (first | with_reducible exact Below.refl _ _ | with_reducible assumption | (with_reducible refine Below.drew ?_) | (with_reducible refine Below.manyDrew ?_ _) | ((with_reducible refine Below.alloc ?_ ?_ _); rotate_left; (focus (first | omega | (dsimp only; omega) | (simp; done) | (simp; omega)))) | ((with_reducible refine Below.setCell ?_ ?_ _); rotate_left; (focus (first | omega | (dsimp only; omega) | (simp; done) | (simp; omega)))) | ((with_reducible refine Below.step ?_ (by assumption) ?_); rotate_left; (focus (first | omega | (dsimp only; omega) | (simp; done) | (simp; omega)))))))).mono ?_; rintro e wn ⟨rfl, hLn, hKn⟩))
        all_goals
          have HLn := hid hLn
          clear hLn hKn
          by_cases he : er = 0
          · subst he
            obtain rfl : ans = okT := Hans.out.trans (if_pos rfl)
            go_wp2_with fail
            go_ret
            exact ⟨rfl, HLn.out⟩
          · obtain rfl : ans = nameE er := Hans.out.trans (if_neg he)
            go_wp2_with fail
            refine (HE.out _).mono ?_
            rintro e w3 ⟨rfl, hb3⟩
            have HL3 := hid (HLn.out.stepB hb3)
            clear hb3
            go_wp2_with fail
            go_ret
            exact ⟨rfl, HL3.out⟩
  · rw [words_short (S := S) hcs (show wantL swapW ≠ some tl.length from fun e => hk (by
      have e2 : some 2 = some tl.length := e
      injection e2 with e2
      exact e2.symm))]
    have hkI : ¬ (2 : Int) = (tl.length : Int) := by omega
    clear hcs htl
    go_enter Tryz.func8, Tryz.ntmps8
    go_wp2_with fail
    refine HF.out.mono ?_
    rintro e w1 ⟨b, off, c, rfl, c0, cs, hc, hbl, hb1⟩
    have q0 : ((mkB swapW).toList == [112, 117, 116]) = false := word_is _ (by decide)
    have q1 : ((mkB swapW).toList == [100, 101, 108, 101, 116, 101]) = false := word_is _ (by decide)
    have q2 : ((mkB swapW).toList == [115, 119, 97, 112]) = true := word_is _ (by decide)
    have q3 : ((mkB swapW).toList == [103, 101, 116]) = false := word_is _ (by decide)
    have q4 : ((mkB swapW).toList == [115, 101, 113]) = false := word_is _ (by decide)
    have q5 : ((mkB swapW).toList == [99, 97, 99, 104, 101]) = false := word_is _ (by decide)
    have q6 : ((mkB swapW).toList == [111, 119, 110, 101, 114]) = false := word_is _ (by decide)
    generalize mkB swapW = hdB at *
    go_wp2_with fail
    go_ret
    exact ⟨rfl, RLn.none HM.out.1 hb1⟩
end Go.Proofs.YtemhdfodghfkfaaGreatDoor
