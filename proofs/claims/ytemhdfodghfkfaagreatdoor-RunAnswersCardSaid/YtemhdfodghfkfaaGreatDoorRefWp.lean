/-
  THE REFERENCE's Line, word by word (put, delete). CONDITIONS: none.
-/
import Derived.Test.YtemhdfodghfkfaaGreatDoorRefKit
namespace Go.Proofs.YtemhdfodghfkfaaGreatDoor
open Go.RowKit
open Go.ChangeShapes Go.WideShapes Go.ChangeAt
variable {base m : Nat} {A : Nat → Prop} {S : RSt}

set_option maxHeartbeats 8000000 in
set_option maxRecDepth 100000 in
theorem rline_put (l : Tx) (hl : l.length ≤ 3000) (tl : List Tx) (hcs : cutC 32 l = putW :: tl) (w : World) (h : RMeshW base w m S.D S.C A) (hB : base ≤ w.heap.size) (hA : ∀ i, A i → i < w.heap.size) (hC : S.C.length ≤ 6) :
    Calls Tryz.prog 8 #[.pointer (some ⟨m, 0, none⟩), .string (mkB l)] w (RLineR base m A w (S.line l)) := by
  have hlen := cutC_len 32 l
  have hmany := cutC_many 32 l
  rw [hcs] at hlen hmany
  have htl : ∀ p ∈ tl, p.length ≤ 3000 := fun p hp => Nat.le_trans (hlen p (List.mem_cons_of_mem _ hp)) hl
  rw [List.length_cons] at hmany
  have HF := hid (front_cut l hl putW tl hcs w)
  have HM := hid (And.intro h (And.intro hB (And.intro hA hC)))
  clear h hB hA hC hlen
  by_cases hk : tl.length = 3
  · match tl, hk with
    | [x0, x1, x2], _ =>
    by_cases hx2 : x2 = []
    · subst hx2
      rw [words_put0 (S := S) hcs]
      clear hcs htl
      go_enter Tryz.func8, Tryz.ntmps8
      go_wp2_with fail
      refine HF.out.mono ?_
      rintro e w1 ⟨b, off, c, rfl, c0, cs, hc, hbl, hb1⟩
      have q0 : ((mkB putW).toList == [112, 117, 116]) = true := word_is _ (by decide)
      have q1 : ((mkB putW).toList == [100, 101, 108, 101, 116, 101]) = false := word_is _ (by decide)
      have q2 : ((mkB putW).toList == [115, 119, 97, 112]) = false := word_is _ (by decide)
      have q3 : ((mkB putW).toList == [103, 101, 116]) = false := word_is _ (by decide)
      have q4 : ((mkB putW).toList == [115, 101, 113]) = false := word_is _ (by decide)
      have q5 : ((mkB putW).toList == [99, 97, 99, 104, 101]) = false := word_is _ (by decide)
      have q6 : ((mkB putW).toList == [111, 119, 110, 101, 114]) = false := word_is _ (by decide)
      generalize mkB putW = hdB at *
      have c3 := cs 2 (by simp)
      have qe : ((mkB []).toList == []) = true := word_is _ rfl
      rw [show ([x0, x1, []] : List Tx)[2] = [] from rfl] at c3
      clear cs
      generalize mkB ([] : Tx) = x2B at *
      simp only [List.length_cons, List.length_nil] at hc
      go_wp2_with fail
      go_ret
      exact ⟨rfl, RLn.none HM.out.1 hb1⟩
    · have hS := by_put (S := S) hcs hx2
      have hx0 := htl x0 (by simp)
      have hx1 := htl x1 (by simp)
      have hx2l := htl x2 (by simp)
      obtain ⟨ws, hws⟩ : ∃ ws : List Tx, ws = [x0, x1] := ⟨_, rfl⟩
      have hwl : ws.length = 2 := by rw [hws]; rfl
      have hwx : ∀ p ∈ ws, p.length ≤ 3000 := fun p hp => htl p (by rw [hws] at hp; simp at hp ⊢; rcases hp with rfl | rfl <;> simp)
      rw [← hws] at hS
      obtain ⟨R, hR⟩ : ∃ R, S.line l = R := ⟨_, rfl⟩
      rw [hR] at hS ⊢
      have HS := hid hS
      clear hcs htl hS hR
      go_enter Tryz.func8, Tryz.ntmps8
      go_wp2_with fail
      refine HF.out.mono ?_
      rintro e w1 ⟨b, off, c, rfl, c0, cs, hc, hbl, hb1⟩
      have q0 : ((mkB putW).toList == [112, 117, 116]) = true := word_is _ (by decide)
      have q1 : ((mkB putW).toList == [100, 101, 108, 101, 116, 101]) = false := word_is _ (by decide)
      have q2 : ((mkB putW).toList == [115, 119, 97, 112]) = false := word_is _ (by decide)
      have q3 : ((mkB putW).toList == [103, 101, 116]) = false := word_is _ (by decide)
      have q4 : ((mkB putW).toList == [115, 101, 113]) = false := word_is _ (by decide)
      have q5 : ((mkB putW).toList == [99, 97, 99, 104, 101]) = false := word_is _ (by decide)
      have q6 : ((mkB putW).toList == [111, 119, 110, 101, 114]) = false := word_is _ (by decide)
      generalize mkB putW = hdB at *
      have c3 := cs 2 (by simp)
      have qe : ((mkB x2).toList == []) = false := word_is _ (beq_eq_false_iff_ne.2 hx2)
      rw [show ([x0, x1, x2] : List Tx)[2] = x2 from rfl] at c3
      have hcw : ∀ k, 1 ≤ k → k ≤ 2 → w1.cell? ⟨b, off + k, none⟩ = some (.string (mkB (ws.getD (k - 1) []))) := fun k h1 h2 => by
        rw [hws]
        rcases (show k = 1 ∨ k = 2 by omega) with rfl | rfl
        · exact cs 0 (by simp)
        · exact cs 1 (by simp)
      have htB : (mkB x2).size ≤ maxLen := by rw [mkB_size]; unfold maxLen; omega
      generalize mkB x2 = tB at *
      simp only [List.length_cons, List.length_nil] at hc
      clear cs hx2
      have Hcw := hid hcw
      have Hwx := hid hwx
      have Hb1 := hid hb1
      have hz1 := hb1.size
      clear hcw hwx hb1
      go_wp2_with fail
      go_loopw [8, 9] (fun v i wr => ∃ (k : Nat) (ns : List Nat), 1 ≤ k ∧ k ≤ 3 ∧ i = .int .i64 k ∧ ns.length = k - 1 ∧ numsL (ws.take (k - 1)) = some ns ∧ Ow cellI 1 w1.heap.size 3 wr v (ns.map (fun (n : Nat) => (n : Int))) ∧ Below w1.heap.size w1 wr) (fun _ i _ => 3 - (intOf i).toNat)
      case atStart => exact ⟨1, [], Nat.le_refl _, by omega, rfl, rfl, rfl, Ow.nil _ _ _ _ _, Below.refl _ _⟩
      case round =>
        obtain ⟨k, ns, hk1, hk2, rfl, hnl, hns, hO, hbr⟩ := hrel
        have hzr := hbr.size
        have HO := hid hO
        have Hns := hid hns
        have Hbr := hid hbr
        clear hO hns hbr
        by_cases hlt : k ≤ 2
        · have hkI : (k : Int) ≤ 2 := by omega
          have hx := (Hbr.out.cell (p := ⟨b, off + k, none⟩) hbl).trans (Hcw.out k hk1 hlt)
          obtain ⟨x, hxe⟩ : ∃ x, ws.getD (k - 1) [] = x := ⟨_, rfl⟩
          rw [hxe] at hx
          have hxm : x ∈ ws := by
            rw [← hxe, List.getD_eq_getElem?_getD, List.getElem?_eq_getElem (by omega : k - 1 < ws.length)]
            exact List.getElem_mem _
          have htd := words_split (k := k - 1) (by omega : k - 1 < ws.length) hxe
          have hxl := Hwx.out x hxm
          have HN := hid (rnumber_any x (by omega) wr)
          have Htd := hid htd
          clear hxm htd hxe
          cases hN : numL x with
          | none =>
            have hbad : numsL ws = none := by rw [Htd.out.1]; exact numsL_bad _ _ _ hN
            obtain rfl := HS.out.1 hbad
            rw [hN] at HN
            have HN1 := hid (show Calls Tryz.prog 16 #[.string (mkB x)] wr (fun e w' => e = .returned (.tuple #[.int .i64 0, .bool false]) ∧ wr = w') from HN.out)
            clear hN hbad HN
            go_wp2_with fail
            refine HN1.out.mono ?_
            rintro e w2 ⟨rfl, rfl⟩
            clear HN1
            go_wp2_with fail
            go_ret
            exact ⟨rfl, RLn.none HM.out.1 (Below.step Hb1.out Hbr.out hz1)⟩
          | some n =>
            rw [hN] at HN
            have HN1 := hid (show Calls Tryz.prog 16 #[.string (mkB x)] wr (fun e w' => e = .returned (.tuple #[.int .i64 (n : Int), .bool true]) ∧ wr = w') from HN.out)
            have hnew : numsL (ws.take (k - 1 + 1)) = some (ns ++ [n]) := by rw [Htd.out.2, numsL_snoc, Hns.out, hN]
            have Hnew := hid hnew
            have hnl1 : (ns.map (fun (n : Nat) => (n : Int))).length = k - 1 := by rw [List.length_map]; exact hnl
            clear hN hnew HN
            go_wp2_with fail
            refine HN1.out.mono ?_
            rintro e w2 ⟨rfl, rfl⟩
            clear HN1
            go_wp2_with (at_builtin; refine appI _ w1.heap.size _ (ns.map (fun (n : Nat) => (n : Int))) (n : Int) HO.out rfl _ _ rfl rfl rfl ?_ ?_ ?_ ?_)
            any_goals (first | (with_reducible rfl) | omega | exact World.size_alloc _ _ | (show _ ≤ _; rw [World.size_alloc]; omega))
            intro v8 w8 h8 f8 o8
            have hb8 : Below w1.heap.size w1 w8 := Hbr.out.trans (f8.below0 hzr (fun i hi => HO.out.ge _ hi))
            go_wp2_with fail
            go_roundw
            case rel => exact ⟨k + 1, ns ++ [n], by omega, by omega, by go_num, by rw [List.length_append, List.length_singleton, hnl]; omega, by rw [show k + 1 - 1 = k - 1 + 1 by omega]; exact Hnew.out, by rw [List.map_append]; exact h8, hb8⟩
            case measure => simp [intOf]; omega
        · obtain rfl : k = 3 := by omega
          have hfull : numsL ws = some ns := by
            have := Hns.out
            rwa [List.take_of_length_le (by omega)] at this
          match ns, hnl with
          | [n0, n1], _ =>
          have hRS := HS.out.2 _ _ hfull
          have c0r := (Hbr.out.cell (p := ⟨b, off, none⟩) hbl).trans c0
          obtain ⟨g, og, cap, rfl, hc1, hc2, hg1, hg2, hg3, hgc, -⟩ := HO.out.get (by simp)
          have i0 : wr.cell? ⟨g, og, none⟩ = some (.int .i64 (n0 : Int)) := by simpa [cellI] using hgc 0 (by simp) 0 (by decide)
          have i1 : wr.cell? ⟨g, og + 1, none⟩ = some (.int .i64 (n1 : Int)) := by simpa [cellI] using hgc 1 (by simp) 0 (by decide)
          simp only [List.length_map, List.length_cons, List.length_nil] at hc1
          have hgw : w.heap.size ≤ g := Nat.le_trans hz1 hg1
          have Hbw := hid (Below.step Hb1.out Hbr.out hz1)
          have HMr := hid (HM.out.1.belowS Hbw.out)
          clear HS hfull Hcw Hwx HO Hns c0 hbl Hbr Hb1
          obtain ⟨⟨g0, g1⟩, g2, g3⟩ := mdoR_facts (len := S.C.length) (D := S.D) (node := (n0 : Int)) (rput_facts HMr.out.deeds (n1 : Int) tB)
          have hRS2 : R = S.deed (n0 : Int) (n1 : Int) (rput S.D n1 tB) := hRS
          have HP := hid (fun W (hW : Below wr.heap.size wr W) => (rmputW (n0 : Int) (n1 : Int) tB htB W (HMr.out.belowS hW) (Nat.le_trans HM.out.2.1 (Nat.le_trans Hbw.out.size hW.size))).mono (fun e X hh => (show e = .returned (.tuple #[.int .i64 (mdoR S.C.length S.D (n0 : Int) (rput S.D n1 tB)).1.1, .int .i64 (mdoR S.C.length S.D (n0 : Int) (rput S.D n1 tB)).1.2]) ∧ RLn base m A w (S.deed (n0 : Int) (n1 : Int) (rput S.D n1 tB)).2 X ∧ KN w.heap.size wr X from ⟨hh.1, RLn.of (Hbw.out.trans (hW.mono Hbw.out.size)) hh.2.1 hh.2.2, ((KN.refl _ wr).below hW).fr hh.2.2 HM.out.2.2.1⟩)))
          have Ha : (S.deed (n0 : Int) (n1 : Int) (rput S.D n1 tB)).1 = toldT (mdoR S.C.length S.D (n0 : Int) (rput S.D n1 tB)).1 := rfl
          generalize S.deed (n0 : Int) (n1 : Int) (rput S.D n1 tB) = q at *
          generalize (mdoR S.C.length S.D (n0 : Int) (rput S.D n1 tB)).1 = r at *
          obtain ⟨kk, er⟩ := r
          simp only at g0 g1 g2 g3 HP
          obtain ⟨kk, rfl⟩ := Int.eq_ofNat_of_zero_le g0
          have HG := hid (fun W => rdig_any kk (by omega) W)
          have HE := hid (fun W => rname_any er g2 g3 W)
          obtain ⟨qT, qS⟩ := q
          obtain rfl : R = (qT, qS) := hRS2
          have Hans := hid (show qT = if er = 0 then digN kk else nameE er from Ha.trans (by show (if er = 0 then digN (kk : Int).toNat else nameE er) = _; rw [Int.toNat_natCast]))
          clear hRS g0 g1 g2 g3 Ha
          replace HP := hid (show ∀ W, Below wr.heap.size wr W → Calls Tryz.prog 17 #[.pointer (some ⟨m, 0, none⟩), .int .i64 (n0 : Int), .int .i64 (n1 : Int), .string tB, .bool false] W (fun e X => e = .returned (.tuple #[.int .i64 (kk : Int), .int .i64 er]) ∧ RLn base m A w qS X ∧ KN w.heap.size wr X) from HP.out)
          go_upto_region 34 with fail
          go_region_held3 (fun W => KN w.heap.size wr W ∧ W.cell? ⟨g, og, none⟩ = some (.int .i64 (n0 : Int)) ∧ W.cell? ⟨g, og + 1, none⟩ = some (.int .i64 (n1 : Int))) (first | with_reducible exact keepN2 hgw hgw i0 i1 (KN.refl _ wr).drew | (go_split_ands; exact keepN2 hgw hgw i0 i1 (by (repeat (first | with_reducible assumption | with_reducible exact KN.refl _ _ | with_reducible refine KN.drew ?_))))) ((go_at_call 17; go_split_ands; refine (HP.out _ (by (repeat (first | with_reducible exact Below.refl _ _ | with_reducible assumption | (with_reducible refine Below.drew ?_) | (with_reducible refine Below.manyDrew ?_ _) | ((with_reducible refine Below.alloc ?_ ?_ _); rotate_left; (focus (first | omega | (dsimp only; omega) | (simp; done) | (simp; omega)))) | ((with_reducible refine Below.setCell ?_ ?_ _); rotate_left; (focus (first | omega | (dsimp only; omega) | (simp; done) | (simp; omega)))) | ((with_reducible refine Below.step ?_ (by assumption) ?_); rotate_left; (focus (first | omega | (dsimp only; omega) | (simp; done) | (simp; omega)))))))).mono ?_; rintro e wn ⟨rfl, hLn, hKn⟩))
          all_goals
            have HLn := hid hLn
            clear hLn hKn
            by_cases he : er = 0
            · subst he
              obtain rfl : qT = digN kk := Hans.out.trans (if_pos rfl)
              go_wp2_with fail
              refine (HG.out _).mono ?_
              rintro e w3 ⟨rfl, hb3⟩
              have HL3 := hid (HLn.out.stepB hb3)
              clear hb3
              go_wp2_with fail
              go_ret
              exact ⟨rfl, HL3.out⟩
            · obtain rfl : qT = nameE er := Hans.out.trans (if_neg he)
              go_wp2_with fail
              refine (HE.out _).mono ?_
              rintro e w3 ⟨rfl, hb3⟩
              have HL3 := hid (HLn.out.stepB hb3)
              clear hb3
              go_wp2_with fail
              go_ret
              exact ⟨rfl, HL3.out⟩
  · rw [words_short (S := S) hcs (show wantL putW ≠ some tl.length from fun e => hk (by
      have e2 : some 3 = some tl.length := e
      injection e2 with e2
      exact e2.symm))]
    have hkI : ¬ (3 : Int) = (tl.length : Int) := by omega
    clear hcs htl
    go_enter Tryz.func8, Tryz.ntmps8
    go_wp2_with fail
    refine HF.out.mono ?_
    rintro e w1 ⟨b, off, c, rfl, c0, cs, hc, hbl, hb1⟩
    have q0 : ((mkB putW).toList == [112, 117, 116]) = true := word_is _ (by decide)
    have q1 : ((mkB putW).toList == [100, 101, 108, 101, 116, 101]) = false := word_is _ (by decide)
    have q2 : ((mkB putW).toList == [115, 119, 97, 112]) = false := word_is _ (by decide)
    have q3 : ((mkB putW).toList == [103, 101, 116]) = false := word_is _ (by decide)
    have q4 : ((mkB putW).toList == [115, 101, 113]) = false := word_is _ (by decide)
    have q5 : ((mkB putW).toList == [99, 97, 99, 104, 101]) = false := word_is _ (by decide)
    have q6 : ((mkB putW).toList == [111, 119, 110, 101, 114]) = false := word_is _ (by decide)
    generalize mkB putW = hdB at *
    go_wp2_with fail
    go_ret
    exact ⟨rfl, RLn.none HM.out.1 hb1⟩
set_option maxHeartbeats 8000000 in
set_option maxRecDepth 100000 in
theorem rline_delete (l : Tx) (hl : l.length ≤ 3000) (tl : List Tx) (hcs : cutC 32 l = deleteW :: tl) (w : World) (h : RMeshW base w m S.D S.C A) (hB : base ≤ w.heap.size) (hA : ∀ i, A i → i < w.heap.size) (hC : S.C.length ≤ 6) :
    Calls Tryz.prog 8 #[.pointer (some ⟨m, 0, none⟩), .string (mkB l)] w (RLineR base m A w (S.line l)) := by
  have hlen := cutC_len 32 l
  have hmany := cutC_many 32 l
  rw [hcs] at hlen hmany
  have htl : ∀ p ∈ tl, p.length ≤ 3000 := fun p hp => Nat.le_trans (hlen p (List.mem_cons_of_mem _ hp)) hl
  rw [List.length_cons] at hmany
  have HF := hid (front_cut l hl deleteW tl hcs w)
  have HM := hid (And.intro h (And.intro hB (And.intro hA hC)))
  clear h hB hA hC hlen
  by_cases hk : tl.length = 2
  · have hS := by_delete (S := S) hcs hk
    obtain ⟨R, hR⟩ : ∃ R, S.line l = R := ⟨_, rfl⟩
    rw [hR] at hS ⊢
    have HS := hid hS
    clear hcs hS hR
    go_enter Tryz.func8, Tryz.ntmps8
    go_wp2_with fail
    refine HF.out.mono ?_
    rintro e w1 ⟨b, off, c, rfl, c0, cs, hc, hbl, hb1⟩
    have q0 : ((mkB deleteW).toList == [112, 117, 116]) = false := word_is _ (by decide)
    have q1 : ((mkB deleteW).toList == [100, 101, 108, 101, 116, 101]) = true := word_is _ (by decide)
    have q2 : ((mkB deleteW).toList == [115, 119, 97, 112]) = false := word_is _ (by decide)
    have q3 : ((mkB deleteW).toList == [103, 101, 116]) = false := word_is _ (by decide)
    have q4 : ((mkB deleteW).toList == [115, 101, 113]) = false := word_is _ (by decide)
    have q5 : ((mkB deleteW).toList == [99, 97, 99, 104, 101]) = false := word_is _ (by decide)
    have q6 : ((mkB deleteW).toList == [111, 119, 110, 101, 114]) = false := word_is _ (by decide)
    generalize mkB deleteW = hdB at *
    have hcw : ∀ k, 1 ≤ k → k ≤ 2 → w1.cell? ⟨b, off + k, none⟩ = some (.string (mkB (tl.getD (k - 1) []))) := fun k h1 h2 => by
      have := cs (k - 1) (by omega)
      rw [show k - 1 + 1 = k by omega] at this
      rw [this, List.getD_eq_getElem?_getD, List.getElem?_eq_getElem (by omega : k - 1 < tl.length)]
      rfl
    obtain ⟨ws, hws⟩ : ∃ ws : List Tx, ws = tl := ⟨_, rfl⟩
    have hwl : ws.length = 2 := by rw [hws]; exact hk
    have hwx : ∀ p ∈ ws, p.length ≤ 3000 := by rw [hws]; exact htl
    rw [← hws] at hcw HS
    rw [hk] at *
    clear cs htl hws hmany
    have Hcw := hid hcw
    have Hwx := hid hwx
    have Hb1 := hid hb1
    have hz1 := hb1.size
    clear hcw hwx hb1
    go_wp2_with fail
    go_loopw [8, 9] (fun v i wr => ∃ (k : Nat) (ns : List Nat), 1 ≤ k ∧ k ≤ 3 ∧ i = .int .i64 k ∧ ns.length = k - 1 ∧ numsL (ws.take (k - 1)) = some ns ∧ Ow cellI 1 w1.heap.size 3 wr v (ns.map (fun (n : Nat) => (n : Int))) ∧ Below w1.heap.size w1 wr) (fun _ i _ => 3 - (intOf i).toNat)
    case atStart => exact ⟨1, [], Nat.le_refl _, by omega, rfl, rfl, rfl, Ow.nil _ _ _ _ _, Below.refl _ _⟩
    case round =>
      obtain ⟨k, ns, hk1, hk2, rfl, hnl, hns, hO, hbr⟩ := hrel
      have hzr := hbr.size
      have HO := hid hO
      have Hns := hid hns
      have Hbr := hid hbr
      clear hO hns hbr
      by_cases hlt : k ≤ 2
      · have hkI : (k : Int) ≤ 2 := by omega
        have hx := (Hbr.out.cell (p := ⟨b, off + k, none⟩) hbl).trans (Hcw.out k hk1 hlt)
        obtain ⟨x, hxe⟩ : ∃ x, ws.getD (k - 1) [] = x := ⟨_, rfl⟩
        rw [hxe] at hx
        have hxm : x ∈ ws := by
          rw [← hxe, List.getD_eq_getElem?_getD, List.getElem?_eq_getElem (by omega : k - 1 < ws.length)]
          exact List.getElem_mem _
        have htd := words_split (k := k - 1) (by omega : k - 1 < ws.length) hxe
        have hxl := Hwx.out x hxm
        have HN := hid (rnumber_any x (by omega) wr)
        have Htd := hid htd
        clear hxm htd hxe
        cases hN : numL x with
        | none =>
          have hbad : numsL ws = none := by rw [Htd.out.1]; exact numsL_bad _ _ _ hN
          obtain rfl := HS.out.1 hbad
          rw [hN] at HN
          have HN1 := hid (show Calls Tryz.prog 16 #[.string (mkB x)] wr (fun e w' => e = .returned (.tuple #[.int .i64 0, .bool false]) ∧ wr = w') from HN.out)
          clear hN hbad HN
          go_wp2_with fail
          refine HN1.out.mono ?_
          rintro e w2 ⟨rfl, rfl⟩
          clear HN1
          go_wp2_with fail
          go_ret
          exact ⟨rfl, RLn.none HM.out.1 (Below.step Hb1.out Hbr.out hz1)⟩
        | some n =>
          rw [hN] at HN
          have HN1 := hid (show Calls Tryz.prog 16 #[.string (mkB x)] wr (fun e w' => e = .returned (.tuple #[.int .i64 (n : Int), .bool true]) ∧ wr = w') from HN.out)
          have hnew : numsL (ws.take (k - 1 + 1)) = some (ns ++ [n]) := by rw [Htd.out.2, numsL_snoc, Hns.out, hN]
          have Hnew := hid hnew
          have hnl1 : (ns.map (fun (n : Nat) => (n : Int))).length = k - 1 := by rw [List.length_map]; exact hnl
          clear hN hnew HN
          go_wp2_with fail
          refine HN1.out.mono ?_
          rintro e w2 ⟨rfl, rfl⟩
          clear HN1
          go_wp2_with (at_builtin; refine appI _ w1.heap.size _ (ns.map (fun (n : Nat) => (n : Int))) (n : Int) HO.out rfl _ _ rfl rfl rfl ?_ ?_ ?_ ?_)
          any_goals (first | (with_reducible rfl) | omega | exact World.size_alloc _ _ | (show _ ≤ _; rw [World.size_alloc]; omega))
          intro v8 w8 h8 f8 o8
          have hb8 : Below w1.heap.size w1 w8 := Hbr.out.trans (f8.below0 hzr (fun i hi => HO.out.ge _ hi))
          go_wp2_with fail
          go_roundw
          case rel => exact ⟨k + 1, ns ++ [n], by omega, by omega, by go_num, by rw [List.length_append, List.length_singleton, hnl]; omega, by rw [show k + 1 - 1 = k - 1 + 1 by omega]; exact Hnew.out, by rw [List.map_append]; exact h8, hb8⟩
          case measure => simp [intOf]; omega
      · obtain rfl : k = 3 := by omega
        have hfull : numsL ws = some ns := by
          have := Hns.out
          rwa [List.take_of_length_le (by omega)] at this
        match ns, hnl with
        | [n0, n1], _ =>
        have hRS := HS.out.2 _ _ hfull
        have c0r := (Hbr.out.cell (p := ⟨b, off, none⟩) hbl).trans c0
        obtain ⟨g, og, cap, rfl, hc1, hc2, hg1, hg2, hg3, hgc, -⟩ := HO.out.get (by simp)
        have i0 : wr.cell? ⟨g, og, none⟩ = some (.int .i64 (n0 : Int)) := by simpa [cellI] using hgc 0 (by simp) 0 (by decide)
        have i1 : wr.cell? ⟨g, og + 1, none⟩ = some (.int .i64 (n1 : Int)) := by simpa [cellI] using hgc 1 (by simp) 0 (by decide)
        simp only [List.length_map, List.length_cons, List.length_nil] at hc1
        have hgw : w.heap.size ≤ g := Nat.le_trans hz1 hg1
        have Hbw := hid (Below.step Hb1.out Hbr.out hz1)
        have HMr := hid (HM.out.1.belowS Hbw.out)
        clear HS hfull Hcw Hwx HO Hns c0 hbl Hbr Hb1
        obtain ⟨⟨g0, g1⟩, g2, g3⟩ := mdoR_facts (len := S.C.length) (D := S.D) (node := (n0 : Int)) (rdel_facts HMr.out.deeds (n1 : Int))
        have hRS2 : R = S.deed (n0 : Int) (n1 : Int) (rdel S.D n1) := hRS
        have HP := hid (fun W (hW : Below wr.heap.size wr W) => (rmdelW (n0 : Int) (n1 : Int) ⟨#[]⟩ (by decide) W (HMr.out.belowS hW) (Nat.le_trans HM.out.2.1 (Nat.le_trans Hbw.out.size hW.size))).mono (fun e X hh => (show e = .returned (.tuple #[.int .i64 (mdoR S.C.length S.D (n0 : Int) (rdel S.D n1)).1.1, .int .i64 (mdoR S.C.length S.D (n0 : Int) (rdel S.D n1)).1.2]) ∧ RLn base m A w (S.deed (n0 : Int) (n1 : Int) (rdel S.D n1)).2 X ∧ KN w.heap.size wr X from ⟨hh.1, RLn.of (Hbw.out.trans (hW.mono Hbw.out.size)) hh.2.1 hh.2.2, ((KN.refl _ wr).below hW).fr hh.2.2 HM.out.2.2.1⟩)))
        have Ha : (S.deed (n0 : Int) (n1 : Int) (rdel S.D n1)).1 = toldT (mdoR S.C.length S.D (n0 : Int) (rdel S.D n1)).1 := rfl
        generalize S.deed (n0 : Int) (n1 : Int) (rdel S.D n1) = q at *
        generalize (mdoR S.C.length S.D (n0 : Int) (rdel S.D n1)).1 = r at *
        obtain ⟨kk, er⟩ := r
        simp only at g0 g1 g2 g3 HP
        obtain ⟨kk, rfl⟩ := Int.eq_ofNat_of_zero_le g0
        have HG := hid (fun W => rdig_any kk (by omega) W)
        have HE := hid (fun W => rname_any er g2 g3 W)
        obtain ⟨qT, qS⟩ := q
        obtain rfl : R = (qT, qS) := hRS2
        have Hans := hid (show qT = if er = 0 then digN kk else nameE er from Ha.trans (by show (if er = 0 then digN (kk : Int).toNat else nameE er) = _; rw [Int.toNat_natCast]))
        clear hRS g0 g1 g2 g3 Ha
        replace HP := hid (show ∀ W, Below wr.heap.size wr W → Calls Tryz.prog 17 #[.pointer (some ⟨m, 0, none⟩), .int .i64 (n0 : Int), .int .i64 (n1 : Int), .string ⟨#[]⟩, .bool true] W (fun e X => e = .returned (.tuple #[.int .i64 (kk : Int), .int .i64 er]) ∧ RLn base m A w qS X ∧ KN w.heap.size wr X) from HP.out)
        go_upto_region 39 with fail
        go_region_held3 (fun W => KN w.heap.size wr W ∧ W.cell? ⟨g, og, none⟩ = some (.int .i64 (n0 : Int)) ∧ W.cell? ⟨g, og + 1, none⟩ = some (.int .i64 (n1 : Int))) (first | with_reducible exact keepN2 hgw hgw i0 i1 (KN.refl _ wr).drew | (go_split_ands; exact keepN2 hgw hgw i0 i1 (by (repeat (first | with_reducible assumption | with_reducible exact KN.refl _ _ | with_reducible refine KN.drew ?_))))) ((go_at_call 17; go_split_ands; refine (HP.out _ (by (repeat (first | with_reducible exact Below.refl _ _ | with_reducible assumption | (with_reducible refine Below.drew ?_) | (with_reducible refine Below.manyDrew ?_ _) | ((with_reducible refine Below.alloc ?_ ?_ _); rotate_left; (focus (first | omega | (dsimp only; omega) | (simp; done) | (simp; omega)))) | ((with_reducible refine Below.setCell ?_ ?_ _); rotate_left; (focus (first | omega | (dsimp only; omega) | (simp; done) | (simp; omega)))) | ((with_reducible refine Below.step ?_ (by assumption) ?_); rotate_left; (focus (first | omega | (dsimp only; omega) | (simp; done) | (simp; omega)))))))).mono ?_; rintro e wn ⟨rfl, hLn, hKn⟩))
        all_goals
          have HLn := hid hLn
          clear hLn hKn
          by_cases he : er = 0
          · subst he
            obtain rfl : qT = digN kk := Hans.out.trans (if_pos rfl)
            go_wp2_with fail
            refine (HG.out _).mono ?_
            rintro e w3 ⟨rfl, hb3⟩
            have HL3 := hid (HLn.out.stepB hb3)
            clear hb3
            go_wp2_with fail
            go_ret
            exact ⟨rfl, HL3.out⟩
          · obtain rfl : qT = nameE er := Hans.out.trans (if_neg he)
            go_wp2_with fail
            refine (HE.out _).mono ?_
            rintro e w3 ⟨rfl, hb3⟩
            have HL3 := hid (HLn.out.stepB hb3)
            clear hb3
            go_wp2_with fail
            go_ret
            exact ⟨rfl, HL3.out⟩
  · rw [words_short (S := S) hcs (show wantL deleteW ≠ some tl.length from fun e => hk (by
      have e2 : some 2 = some tl.length := e
      injection e2 with e2
      exact e2.symm))]
    have hkI : ¬ (2 : Int) = (tl.length : Int) := by omega
    clear hcs htl
    go_enter Tryz.func8, Tryz.ntmps8
    go_wp2_with fail
    refine HF.out.mono ?_
    rintro e w1 ⟨b, off, c, rfl, c0, cs, hc, hbl, hb1⟩
    have q0 : ((mkB deleteW).toList == [112, 117, 116]) = false := word_is _ (by decide)
    have q1 : ((mkB deleteW).toList == [100, 101, 108, 101, 116, 101]) = true := word_is _ (by decide)
    have q2 : ((mkB deleteW).toList == [115, 119, 97, 112]) = false := word_is _ (by decide)
    have q3 : ((mkB deleteW).toList == [103, 101, 116]) = false := word_is _ (by decide)
    have q4 : ((mkB deleteW).toList == [115, 101, 113]) = false := word_is _ (by decide)
    have q5 : ((mkB deleteW).toList == [99, 97, 99, 104, 101]) = false := word_is _ (by decide)
    have q6 : ((mkB deleteW).toList == [111, 119, 110, 101, 114]) = false := word_is _ (by decide)
    generalize mkB deleteW = hdB at *
    go_wp2_with fail
    go_ret
    exact ⟨rfl, RLn.none HM.out.1 hb1⟩
end Go.Proofs.YtemhdfodghfkfaaGreatDoor
