/-
  THE REFERENCE's Line, word by word (owner). CONDITIONS: none.
-/
import Derived.Test.YtemhdfodghfkfaaGreatDoorRefKit
namespace Go.Proofs.YtemhdfodghfkfaaGreatDoor
open Go.RowKit
open Go.ChangeShapes Go.WideShapes Go.ChangeAt
variable {base m : Nat} {A : Nat → Prop} {S : RSt}

theorem blkN (X : World) (T : TypeId) (cs : Array Value) : Blk (X.alloc (.cells cs T)) X.heap.size T cs := Blk.new X T cs
theorem blkD (X : World) (T : TypeId) (cs : Array Value) : Blk (X.alloc (.cells cs T)).drew X.heap.size T cs := Blk.new X T cs
theorem blkA (X : World) (T : TypeId) (cs : Array Value) : Blk (X.drew.alloc (.cells cs T)) X.heap.size T cs := Blk.new X.drew T cs
theorem blkAD (X : World) (T : TypeId) (cs : Array Value) : Blk (X.drew.alloc (.cells cs T)).drew X.heap.size T cs := Blk.new X.drew T cs
set_option maxHeartbeats 8000000 in
set_option maxRecDepth 100000 in
theorem rline_owner (l : Tx) (hl : l.length ≤ 3000) (tl : List Tx) (hcs : cutC 32 l = ownerW :: tl) (w : World) (h : RMeshW base w m S.D S.C A) (hB : base ≤ w.heap.size) (hA : ∀ i, A i → i < w.heap.size) (hC : S.C.length ≤ 6) :
    Calls Tryz.prog 8 #[.pointer (some ⟨m, 0, none⟩), .string (mkB l)] w (RLineR base m A w (S.line l)) := by
  have hlen := cutC_len 32 l
  have hmany := cutC_many 32 l
  rw [hcs] at hlen hmany
  have htl : ∀ p ∈ tl, p.length ≤ 3000 := fun p hp => Nat.le_trans (hlen p (List.mem_cons_of_mem _ hp)) hl
  rw [List.length_cons] at hmany
  have HF := hid (front_cut l hl ownerW tl hcs w)
  have HM := hid (And.intro h (And.intro hB (And.intro hA hC)))
  clear h hB hA hC hlen
  by_cases hk : tl.length = 1
  · have hS := by_owner (S := S) hcs hk
    obtain ⟨R, hR⟩ : ∃ R, S.line l = R := ⟨_, rfl⟩
    rw [hR] at hS ⊢
    have HS := hid hS
    clear hcs hS hR
    go_enter Tryz.func8, Tryz.ntmps8
    go_wp2_with fail
    refine HF.out.mono ?_
    rintro e w1 ⟨b, off, c, rfl, c0, cs, hc, hbl, hb1⟩
    have q0 : ((mkB ownerW).toList == [112, 117, 116]) = false := word_is _ (by decide)
    have q1 : ((mkB ownerW).toList == [100, 101, 108, 101, 116, 101]) = false := word_is _ (by decide)
    have q2 : ((mkB ownerW).toList == [115, 119, 97, 112]) = false := word_is _ (by decide)
    have q3 : ((mkB ownerW).toList == [103, 101, 116]) = false := word_is _ (by decide)
    have q4 : ((mkB ownerW).toList == [115, 101, 113]) = false := word_is _ (by decide)
    have q5 : ((mkB ownerW).toList == [99, 97, 99, 104, 101]) = false := word_is _ (by decide)
    have q6 : ((mkB ownerW).toList == [111, 119, 110, 101, 114]) = true := word_is _ (by decide)
    generalize mkB ownerW = hdB at *
    have hcw : ∀ k, 1 ≤ k → k ≤ 1 → w1.cell? ⟨b, off + k, none⟩ = some (.string (mkB (tl.getD (k - 1) []))) := fun k h1 h2 => by
      have := cs (k - 1) (by omega)
      rw [show k - 1 + 1 = k by omega] at this
      rw [this, List.getD_eq_getElem?_getD, List.getElem?_eq_getElem (by omega : k - 1 < tl.length)]
      rfl
    obtain ⟨ws, hws⟩ : ∃ ws : List Tx, ws = tl := ⟨_, rfl⟩
    have hwl : ws.length = 1 := by rw [hws]; exact hk
    have hwx : ∀ p ∈ ws, p.length ≤ 3000 := by rw [hws]; exact htl
    rw [← hws] at hcw HS
    rw [hk] at *
    clear cs htl hws hmany
    have Hcw := hid hcw
    have Hwx := hid hwx
    have Hb1 := hid hb1
    have hz1 := hb1.size
    clear hcw hwx hb1
    go_wp2_with fail
    go_loopw [8, 9] (fun v i wr => ∃ (k : Nat) (ns : List Nat), 1 ≤ k ∧ k ≤ 2 ∧ i = .int .i64 k ∧ ns.length = k - 1 ∧ numsL (ws.take (k - 1)) = some ns ∧ Ow cellI 1 w1.heap.size 3 wr v (ns.map (fun (n : Nat) => (n : Int))) ∧ Below w1.heap.size w1 wr) (fun _ i _ => 2 - (intOf i).toNat)
    case atStart => exact ⟨1, [], Nat.le_refl _, by omega, rfl, rfl, rfl, Ow.nil _ _ _ _ _, Below.refl _ _⟩
    case round =>
      obtain ⟨k, ns, hk1, hk2, rfl, hnl, hns, hO, hbr⟩ := hrel
      have hzr := hbr.size
      have HO := hid hO
      have Hns := hid hns
      have Hbr := hid hbr
      clear hO hns hbr
      by_cases hlt : k ≤ 1
      · have hkI : (k : Int) ≤ 1 := by omega
        have hx := (Hbr.out.cell (p := ⟨b, off + k, none⟩) hbl).trans (Hcw.out k hk1 hlt)
        obtain ⟨x, hxe⟩ : ∃ x, ws.getD (k - 1) [] = x := ⟨_, rfl⟩
        rw [hxe] at hx
        have hxm : x ∈ ws := by
          rw [← hxe, List.getD_eq_getElem?_getD, List.getElem?_eq_getElem (by omega : k - 1 < ws.length)]
          exact List.getElem_mem _
        have htd := words_split (k := k - 1) (by omega : k - 1 < ws.length) hxe
        have hxl := Hwx.out x hxm
        have HN := hid (rnumber_any x (by omega) wr)
        have Htd := hid htd
        clear hxm htd hxe
        cases hN : numL x with
        | none =>
          have hbad : numsL ws = none := by rw [Htd.out.1]; exact numsL_bad _ _ _ hN
          obtain rfl := HS.out.1 hbad
          rw [hN] at HN
          have HN1 := hid (show Calls Tryz.prog 16 #[.string (mkB x)] wr (fun e w' => e = .returned (.tuple #[.int .i64 0, .bool false]) ∧ wr = w') from HN.out)
          clear hN hbad HN
          go_wp2_with fail
          refine HN1.out.mono ?_
          rintro e w2 ⟨rfl, rfl⟩
          clear HN1
          go_wp2_with fail
          go_ret
          exact ⟨rfl, RLn.none HM.out.1 (Below.step Hb1.out Hbr.out hz1)⟩
        | some n =>
          rw [hN] at HN
          have HN1 := hid (show Calls Tryz.prog 16 #[.string (mkB x)] wr (fun e w' => e = .returned (.tuple #[.int .i64 (n : Int), .bool true]) ∧ wr = w') from HN.out)
          have hnew : numsL (ws.take (k - 1 + 1)) = some (ns ++ [n]) := by rw [Htd.out.2, numsL_snoc, Hns.out, hN]
          have Hnew := hid hnew
          have hnl1 : (ns.map (fun (n : Nat) => (n : Int))).length = k - 1 := by rw [List.length_map]; exact hnl
          clear hN hnew HN
          go_wp2_with fail
          refine HN1.out.mono ?_
          rintro e w2 ⟨rfl, rfl⟩
          clear HN1
          go_wp2_with (at_builtin; refine appI _ w1.heap.size _ (ns.map (fun (n : Nat) => (n : Int))) (n : Int) HO.out rfl _ _ rfl rfl rfl ?_ ?_ ?_ ?_)
          any_goals (first | (with_reducible rfl) | omega | exact World.size_alloc _ _ | (show _ ≤ _; rw [World.size_alloc]; omega))
          intro v8 w8 h8 f8 o8
          have hb8 : Below w1.heap.size w1 w8 := Hbr.out.trans (f8.below0 hzr (fun i hi => HO.out.ge _ hi))
          go_wp2_with fail
          go_roundw
          case rel => exact ⟨k + 1, ns ++ [n], by omega, by omega, by go_num, by rw [List.length_append, List.length_singleton, hnl]; omega, by rw [show k + 1 - 1 = k - 1 + 1 by omega]; exact Hnew.out, by rw [List.map_append]; exact h8, hb8⟩
          case measure => simp [intOf]; omega
      · obtain rfl : k = 2 := by omega
        have hfull : numsL ws = some ns := by
          have := Hns.out
          rwa [List.take_of_length_le (by omega)] at this
        match ns, hnl with
        | [n0], _ =>
        have hRS := HS.out.2 _ hfull
        have c0r := (Hbr.out.cell (p := ⟨b, off, none⟩) hbl).trans c0
        obtain ⟨g, og, cap, rfl, hc1, hc2, hg1, hg2, hg3, hgc, -⟩ := HO.out.get (by simp)
        have i0 : wr.cell? ⟨g, og, none⟩ = some (.int .i64 (n0 : Int)) := by simpa [cellI] using hgc 0 (by simp) 0 (by decide)
        simp only [List.length_map, List.length_cons, List.length_nil] at hc1
        have hgw : w.heap.size ≤ g := Nat.le_trans hz1 hg1
        have Hbw := hid (Below.step Hb1.out Hbr.out hz1)
        have HMr := hid (HM.out.1.belowS Hbw.out)
        clear HS hfull Hcw Hwx HO Hns c0 hbl Hbr Hb1
        by_cases h7 : 7 < n0
        · have hkb : keyB (n0 : Int) = false := by unfold keyB; simp; omega
          obtain rfl : R = (nameE 1, S) := by rw [hRS, hkb]; rfl
          have HE := hid (rname_any 1 (by decide) (by decide))
          have h7' : (7 : Int) < (n0 : Int) := by omega
          clear hRS hkb h7
          go_wp2_with fail
          refine (HE.out _).mono ?_
          rintro e w3 ⟨rfl, hb3⟩
          have Hb3 := hid (Hbw.out.trans (hb3.mono Hbw.out.size))
          clear hb3 HE
          go_wp2_with fail
          go_ret
          exact ⟨rfl, RLn.none HM.out.1 Hb3.out⟩
        have hkb : keyB (n0 : Int) = true := by unfold keyB; simp; omega
        have h7' : ¬ (7 : Int) < (n0 : Int) := by omega
        have hro := ringO_in (n0 : Int)
        have HOw := hid (fun r hr W hP => rowner3 n0 (by omega) r hr W hP)
        obtain ⟨o, ho⟩ : ∃ o : Nat, ringO (n0 : Int) = (o : Int) := ⟨(ringO (n0 : Int)).toNat, by omega⟩
        rw [ho] at HOw hro
        obtain rfl : R = (digN o, S) := by rw [hRS, hkb, if_pos rfl, ho, Int.toNat_natCast]
        have HD := hid (rdig_any o (by omega))
        clear hRS hkb ho hro
        go_upto_region 77 with fail
        go_cut [24] (fun v wx => OwnedO wr (o : Int) v wx)
        case first =>
          go_region_held3 (fun W => Below wr.heap.size wr W ∧ W.cell? ⟨g, og, none⟩ = some (.int .i64 (n0 : Int))) (first | with_reducible exact keep1_below hg2 i0 (Below.refl _ _).drew | (go_split_ands; with_reducible exact keep1_below hg2 i0 (by assumption)) | (go_split_ands; exact keep1_below hg2 i0 (by (repeat (first | with_reducible exact Below.refl _ _ | with_reducible assumption | (with_reducible refine Below.drew ?_) | (with_reducible refine Below.manyDrew ?_ _) | ((with_reducible refine Below.alloc ?_ ?_ _); rotate_left; (focus (first | omega | (dsimp only; omega) | (simp; done) | (simp; omega)))) | ((with_reducible refine Below.setCell ?_ ?_ _); rotate_left; (focus (first | omega | (dsimp only; omega) | (simp; done) | (simp; omega)))) | ((with_reducible refine Below.step ?_ (by assumption) ?_); rotate_left; (focus (first | omega | (dsimp only; omega) | (simp; done) | (simp; omega))))))))) (first | (go_at_call 22; go_split_ands; rename_i hbS hcS; refine (rpoints3 _ _ (by first | with_reducible exact blkD _ _ _ | with_reducible exact blkN _ _ _ | with_reducible exact blkAD _ _ _ | with_reducible exact blkA _ _ _)).mono ?_; rintro e wp ⟨v, rfl, r, rfl, hrx, hrA, hbp⟩; have hbq := bstep hbS hbp) | (go_at_call 21; go_split_ands; rename_i hbS hcS; refine (HOw.out r hrx.out _ (hrA.stays (by (repeat (first | with_reducible exact Below.refl _ _ | with_reducible assumption | (with_reducible refine Below.drew ?_) | (with_reducible refine Below.manyDrew ?_ _) | ((with_reducible refine Below.alloc ?_ ?_ _); rotate_left; (focus (first | omega | (dsimp only; omega) | (simp; done) | (simp; omega)))) | ((with_reducible refine Below.setCell ?_ ?_ _); rotate_left; (focus (first | omega | (dsimp only; omega) | (simp; done) | (simp; omega)))) | ((with_reducible refine Below.step ?_ (by assumption) ?_); rotate_left; (focus (first | omega | (dsimp only; omega) | (simp; done) | (simp; omega))))))))).mono ?_; rintro e wo ⟨v, rfl, g9, og9, l9, c9, rfl, hl9, hc9, hbo⟩; have hbz := bstep hbS hbo))
          all_goals
            go_wp2_with fail
            go_meet
            exact ⟨g9, og9, l9, c9, rfl, hl9, hc9, hbz⟩
        case rest =>
        obtain ⟨g9, og9, l9, c9, rfl, hl9, hc9, hb9⟩ := hcut
        obtain ⟨w2, rfl⟩ : ∃ w2 : World, w2 = wc := ⟨_, rfl⟩
        have Hb9 := hid (Hbw.out.trans (hb9.mono Hbw.out.size))
        have hl9' : (0 : Int) < (l9 : Int) := by omega
        clear hb9
        go_wp2_with fail
        refine (HD.out _).mono ?_
        rintro e w3 ⟨rfl, hb3⟩
        have Hb3 := hid (Hb9.out.trans (hb3.mono Hb9.out.size))
        clear hb3 HD
        go_wp2_with fail
        go_ret
        exact ⟨rfl, RLn.none HM.out.1 Hb3.out⟩
  · rw [words_short (S := S) hcs (show wantL ownerW ≠ some tl.length from fun e => hk (by
      have e2 : some 1 = some tl.length := e
      injection e2 with e2
      exact e2.symm))]
    have hkI : ¬ (1 : Int) = (tl.length : Int) := by omega
    clear hcs htl
    go_enter Tryz.func8, Tryz.ntmps8
    go_wp2_with fail
    refine HF.out.mono ?_
    rintro e w1 ⟨b, off, c, rfl, c0, cs, hc, hbl, hb1⟩
    have q0 : ((mkB ownerW).toList == [112, 117, 116]) = false := word_is _ (by decide)
    have q1 : ((mkB ownerW).toList == [100, 101, 108, 101, 116, 101]) = false := word_is _ (by decide)
    have q2 : ((mkB ownerW).toList == [115, 119, 97, 112]) = false := word_is _ (by decide)
    have q3 : ((mkB ownerW).toList == [103, 101, 116]) = false := word_is _ (by decide)
    have q4 : ((mkB ownerW).toList == [115, 101, 113]) = false := word_is _ (by decide)
    have q5 : ((mkB ownerW).toList == [99, 97, 99, 104, 101]) = false := word_is _ (by decide)
    have q6 : ((mkB ownerW).toList == [111, 119, 110, 101, 114]) = true := word_is _ (by decide)
    generalize mkB ownerW = hdB at *
    go_wp2_with fail
    go_ret
    exact ⟨rfl, RLn.none HM.out.1 hb1⟩
end Go.Proofs.YtemhdfodghfkfaaGreatDoor
