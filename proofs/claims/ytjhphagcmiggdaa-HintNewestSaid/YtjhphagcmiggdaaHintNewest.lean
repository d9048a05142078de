/-
  PROVED HERE: merelaw2.HintNewest returns true for any hints and any node: one of each, the newest. CONDITIONS: none.
-/
import Derived.Test.YtjhphagcmiggdaaHintNewP
import Derived.Deep.QuietTactic
import Derived.Deep.CutBlock
import Derived.Deep.RegionLaw
import Derived.BigQuiet
namespace Go.Proofs.Ytjhphagcmiggdaa
open Go.RowKit
open Go.ChangeShapes Go.WideShapes Go.ChangeAt

set_option maxHeartbeats 16000000 in
set_option maxRecDepth 100000 in
theorem hintNewest_any (s : SlV H) (node : Int) (w : World) (hs : HsAt w s) :
    Calls Try.prog 3 #[.slice s.A s.xs.length s.c, .int .i64 node] w fun e w' => e = .returned (.bool true) ∧ Below w.heap.size w w' := by
  have hlen := hs.len
  unfold maxLen at hlen
  have F1 := hid (show errV (addE ⟨1, 2, 9⟩) = .nilIface from rfl)
  have F2 := hid (show addL [] ⟨1, 2, 9⟩ = [⟨1, 2, 9⟩] from rfl)
  have F3 := hid (show addN [] 0 ⟨1, 2, 9⟩ = 0 from rfl)
  have F4 := hid (show errV (addE ⟨1, 2, 4⟩) = .nilIface from rfl)
  have F5 := hid (show addL [⟨1, 2, 9⟩] ⟨1, 2, 4⟩ = [⟨1, 2, 9⟩] from rfl)
  have F6 := hid (show addN [⟨1, 2, 9⟩] 0 ⟨1, 2, 4⟩ = 0 from rfl)
  have hg1 : ∀ y ∈ [(⟨1, 2, 9⟩ : H)], y.good := fun y hy => by rw [List.mem_singleton.1 hy]; exact hintOk_good rfl
  go_enter Try.func3, Try.ntmps3
  go_wp2_with fail
  refine (hnew_any _).mono ?_
  rintro e w1 ⟨rfl, hO1, hb1⟩
  have hz1 := hb1.size
  go_wp2_with fail
  refine (hadd_any 1 2 9 w.heap.size w.heap.size _ [] 0 _ hO1 (by simp) (by simp) (by omega) (by omega)).mono ?_
  rw [F1.out, F2.out, F3.out]
  rintro e w2 ⟨v2, rfl, hO2, hf2, hF2⟩
  have hb2 : Below w.heap.size w w2 := hb1.trans (hF2.below0 hz1 (fun i hi => by
    rcases hi with rfl | hi
    · exact Nat.le_refl _
    · exact hO1.2.1.ge i hi))
  go_wp2_with fail
  refine (hadd_any 1 2 4 w.heap.size w.heap.size v2 [⟨1, 2, 9⟩] 0 _ hO2 hg1 (by simp) (by omega) (by omega)).mono ?_
  rw [F4.out, F5.out, F6.out]
  rintro e w3 ⟨v3, rfl, hO3, hf3, hF3⟩
  have hb3 : Below w.heap.size w w3 := hb2.trans (hF3.below0 hb2.size (fun i hi => by
    rcases hi with rfl | hi
    · exact Nat.le_refl _
    · exact hO2.2.1.ge i hi))
  clear hF2 hF3 hf2 hf3 hO1 hO2 hb1 hb2
  go_wp2_with fail
  refine (hall_any w.heap.size w.heap.size v3 [⟨1, 2, 9⟩] 0 _ hO3 hg1 (by simp)).mono ?_
  rintro e w4 ⟨r1, rfl, hr1, hr1A, _, hb4⟩
  have hbw4 : Below w.heap.size w w4 := Below.step hb3 hb4 hb3.size
  have hrl : r1.xs.length = 1 := by rw [hr1]; rfl
  obtain ⟨g1, off1, hA1, hgl1, hc1⟩ := hr1A.row (by omega)
  have hv9 : w4.cell? ⟨g1, off1 + 2, none⟩ = some (.int .i64 9) := by
    have := (hc1 0 (by omega)).c2
    rw [hr1] at this
    simpa using this
  have hl1b : ((r1.xs.length : Int) == 1) = true := by rw [hrl]; rfl
  have hl1c : ((r1.xs.length : Int) != 1) = false := by rw [hrl]; rfl
  have hl1d : (0 : Int) < (r1.xs.length : Int) := by omega
  rw [hA1]
  clear hA1 hc1 hr1 hrl hO3 hb3 hb4 hr1A
  go_wp2_with fail
  refine (hnew_any _).mono ?_
  rintro e w5 ⟨rfl, hO5, hb5⟩
  have hz5 := hb5.size
  have hl5 := hO5.1.lt
  have hne5 : w5.heap.size ≠ w4.heap.size := by omega
  have hB6 : Blk (w5.alloc (.cells (ints (List.replicate 48 0)) 32)) w5.heap.size 32 (ints (List.replicate 48 0)) := Blk.new _ _ _
  have hO6 : HintsO w4.heap.size (w5.alloc (.cells (ints (List.replicate 48 0)) 32)) w4.heap.size (.slice none 0 0) [] 0 := hO5.belowS (by (repeat (first | with_reducible exact Below.refl _ _ | with_reducible assumption | (with_reducible refine Below.drew ?_) | (with_reducible refine Below.manyDrew ?_ _) | ((with_reducible refine Below.alloc ?_ ?_ _); rotate_left; (focus (first | omega | (dsimp only; omega) | (simp; done) | (simp; omega)))) | ((with_reducible refine Below.setCell ?_ ?_ _); rotate_left; (focus (first | omega | (dsimp only; omega) | (simp; done) | (simp; omega)))) | ((with_reducible refine Below.step ?_ (by assumption) ?_); rotate_left; (focus (first | omega | (dsimp only; omega) | (simp; done) | (simp; omega)))))))
  have hb6 : Below w.heap.size w (w5.alloc (.cells (ints (List.replicate 48 0)) 32)) := (Below.step hbw4 hb5 hbw4.size).alloc (by have := hbw4.size; omega) _
  have h4w : w.heap.size ≤ w4.heap.size := hbw4.size
  clear hO5 hb5 hbw4 hv9
  go_upto_block 0 with fail
  go_cut [] (fun wx => ∃ (v : Value) (L : List H) (lost : Int) (bs : List Int), HintsO w4.heap.size wx w4.heap.size v L lost ∧ Inv L lost bs ∧ Blk wx w5.heap.size 32 (ints bs) ∧ foot v ≠ some w5.heap.size ∧ Below w.heap.size w wx)
  case first =>
    as_aux_lemma =>
    go_wp2_with fail
    go_loopw [11] (fun i wr => ∃ (n : Nat) (v : Value) (L : List H) (lost : Int) (bs : List Int), n ≤ 60 ∧ i = .int .i64 n ∧ lost ≤ n ∧ HintsO w4.heap.size wr w4.heap.size v L lost ∧ Inv L lost bs ∧ Blk wr w5.heap.size 32 (ints bs) ∧ foot v ≠ some w5.heap.size ∧ Below w.heap.size w wr)
      (fun i _ => 60 - (intOf i).toNat)
    case atStart => exact ⟨0, _, [], 0, _, by omega, rfl, by omega, hO6, Inv.new, hB6, (fun h => by cases h), hb6⟩
    case round =>
      obtain ⟨n, v, L, lost, bs, hn, rfl, hln, hO, hI, hB, hfv, hbr⟩ := hrel
      clear hB6 hO6 hb6
      have hzr := hbr.size
      have hBl := hB.lt
      have hhl := hO.1.lt
      have Hfv := hid hfv
      clear hfv
      by_cases hlt : n < s.xs.length ∧ n < 60
      · as_aux_lemma =>
        obtain ⟨hlt1, hlt2⟩ := hlt
        obtain ⟨g, off, hA, hgl, hcells⟩ := hs.row (by omega)
        obtain ⟨k0, k1, k2⟩ := (hcells n hlt1).stays hbr hgl
        generalize s.xs.getD n H.zero = x at *
        obtain ⟨x0, x1, x2⟩ := x
        simp only at k0 k1 k2
        have HA := hid hA
        rw [hA]
        clear hA hcells
        have hg := hI.good
        have hl10 := hI.len
        have hlo := hI.lo
        have hlo2 : lost ≤ 1000000 := by omega
        have HI := hid hI
        have HO := hid hO
        have HB := hid hB
        clear hI hO hB
        rcases hok : hintOk ⟨x0, x1, x2⟩ with _ | _
        · have hE : errV (addE ⟨x0, x1, x2⟩) = .iface 40 (.int .i64 1) := by rw [addE, if_neg (by rw [hok]; decide)]; rfl
          have hLL : addL L ⟨x0, x1, x2⟩ = L := by rw [addL, if_neg (by rw [hok]; decide)]
          have hNN : addN L lost ⟨x0, x1, x2⟩ = lost := by rw [addN, if_neg (by rw [hok]; decide)]
          have HE := hid (And.intro hE (And.intro hLL hNN))
          clear hE hLL hNN hok
          go_wp2_with fail
          refine (hadd_any x0 x1 x2 w4.heap.size w4.heap.size v L lost _ (HO.out.belowS (by (repeat (first | with_reducible exact Below.refl _ _ | with_reducible assumption | (with_reducible refine Below.drew ?_) | (with_reducible refine Below.manyDrew ?_ _) | ((with_reducible refine Below.alloc ?_ ?_ _); rotate_left; (focus (first | omega | (dsimp only; omega) | (simp; done) | (simp; omega)))) | ((with_reducible refine Below.setCell ?_ ?_ _); rotate_left; (focus (first | omega | (dsimp only; omega) | (simp; done) | (simp; omega)))) | ((with_reducible refine Below.step ?_ (by assumption) ?_); rotate_left; (focus (first | omega | (dsimp only; omega) | (simp; done) | (simp; omega)))))))) hg hl10 hlo hlo2).mono ?_
          rw [HE.out.1, HE.out.2.1, HE.out.2.2]
          rintro e w7 ⟨v7, rfl, hO7, hf7, hF7⟩
          have hz7 := hF7.size
          simp only [World.size_alloc] at hz7 hf7
          have hB7 := (HB.out.alloc (.cells #[.int .i64 x0, .int .i64 x1, .int .i64 x2] 29)).fr hF7 (fun h => h.elim hne5 (fun h => Hfv.out h.symm))
          have hfv7 : foot v7 ≠ some w5.heap.size := fun h => by
            rcases hf7 with o | ⟨k, o, hk⟩
            · exact Hfv.out (by rw [← o, h])
            · rw [h] at o; cases o; omega
          have hb7 : Below w.heap.size w w7 := (hbr.alloc (by omega) _).trans (hF7.below0 (by simp; omega) (fun i hi => by
            rcases hi with rfl | hi
            · exact h4w
            · exact Nat.le_trans h4w (HO.out.2.1.ge i hi)))
          have HB7 := hid hB7
          have HO7 := hid hO7
          have Hfv7 := hid hfv7
          have Hb7 := hid hb7
          clear hB7 hO7 hfv7 hb7 hF7 hf7
          go_wp2_with fail
          go_roundw
          case rel => exact ⟨n + 1, v7, L, lost, bs, by omega, by go_num, by omega, HO7.out, HI.out, HB7.out, Hfv7.out, Hb7.out⟩
          case measure => simp [intOf]; omega
        · have hE : errV (addE ⟨x0, x1, x2⟩) = .nilIface := by rw [addE, if_pos hok]; rfl
          have HE := hid hE
          obtain ⟨hn1, hk1, hv1, hv2⟩ := hintOk_true.1 hok
          obtain ⟨hn2, hn3⟩ := nodeB_true.1 hn1
          obtain ⟨hk2, hk3⟩ := keyB_true.1 hk1
          simp only at hn2 hn3 hk2 hk3 hv1 hv2
          obtain ⟨a, rfl⟩ := Int.eq_ofNat_of_zero_le hn2
          obtain ⟨b, rfl⟩ := Int.eq_ofNat_of_zero_le hk2
          have hnot : addN L lost ⟨a, b, x2⟩ ≤ lost + 1 := by unfold addN; split <;> (try split) <;> (try split) <;> omega
          have HN := hid hnot
          have HI2 := hid (HI.out.add ⟨a, b, x2⟩ hok)
          have hsz := HI.out.size
          have Hsz := hid hsz
          clear hE hok hn1 hk1 hnot hsz
          go_wp2_with fail
          refine (hadd_any a b x2 w4.heap.size w4.heap.size v L lost _ (HO.out.belowS (by (repeat (first | with_reducible exact Below.refl _ _ | with_reducible assumption | (with_reducible refine Below.drew ?_) | (with_reducible refine Below.manyDrew ?_ _) | ((with_reducible refine Below.alloc ?_ ?_ _); rotate_left; (focus (first | omega | (dsimp only; omega) | (simp; done) | (simp; omega)))) | ((with_reducible refine Below.setCell ?_ ?_ _); rotate_left; (focus (first | omega | (dsimp only; omega) | (simp; done) | (simp; omega)))) | ((with_reducible refine Below.step ?_ (by assumption) ?_); rotate_left; (focus (first | omega | (dsimp only; omega) | (simp; done) | (simp; omega)))))))) hg hl10 hlo hlo2).mono ?_
          rw [HE.out]
          generalize addL L ⟨a, b, x2⟩ = L' at *
          generalize addN L lost ⟨a, b, x2⟩ = lost' at *
          rintro e w7 ⟨v7, rfl, hO7, hf7, hF7⟩
          have hz7 := hF7.size
          simp only [World.size_alloc] at hz7 hf7
          have hB7 := (HB.out.alloc (.cells #[.int .i64 a, .int .i64 b, .int .i64 x2] 29)).fr hF7 (fun h => h.elim hne5 (fun h => Hfv.out h.symm))
          have hX7 : HAt w7 wr.heap.size 0 ⟨a, b, x2⟩ := (HAt.of_blk (Blk.new wr _ _)).fr hF7 (by simp) (fun h => by
            rcases h with h | h
            · omega
            · have := (HO.out.2.1.lt h.symm).2; omega)
          have hfv7 : foot v7 ≠ some w5.heap.size := fun h => by
            rcases hf7 with o | ⟨k, o, hk⟩
            · exact Hfv.out (by rw [← o, h])
            · rw [h] at o; cases o; omega
          have hb7 : Below w.heap.size w w7 := (hbr.alloc (by omega) _).trans (hF7.below0 (by simp; omega) (fun i hi => by
            rcases hi with rfl | hi
            · exact h4w
            · exact Nat.le_trans h4w (HO.out.2.1.ge i hi)))
          obtain ⟨c0, c1, c2⟩ := hX7
          simp only [Nat.zero_add] at c0 c1 c2
          have hix : a * 8 + b < 48 := by omega
          have hcur : w7.cell? ⟨w5.heap.size, a * 8 + b, none⟩ = some (.int .i64 (bs.getD (a * 8 + b) 0)) := (hB7.cell _).trans (ints_get _ _ (by rw [Hsz.out]; exact hix))
          have hcf := hB7.frozen (a * 8 + b)
          have HBU : Hid (bestU bs ⟨a, b, x2⟩ = if bs.getD (a * 8 + b) 0 < x2 then bs.set (a * 8 + b) x2 else bs) := hid rfl
          have hBs := hB7.put (a * 8 + b) (.int .i64 x2)
          rw [ints_set] at hBs
          generalize bs.getD (a * 8 + b) 0 = cur at *
          have HBs := hid hBs
          have HB7 := hid hB7
          have HO7 := hid hO7
          have Hfv7 := hid hfv7
          have Hb7 := hid hb7
          have hl7 : w5.heap.size < w7.heap.size := by omega
          clear hB7 hO7 hfv7 hb7 hF7 hf7 hBs
          by_cases hgt : cur < x2
          · have HBU2 : Hid (bestU bs ⟨a, b, x2⟩ = bs.set (a * 8 + b) x2) := hid (by rw [HBU.out, if_pos hgt])
            rw [HBU2.out] at HI2
            go_wp2_with fail
            go_quiet (fail)
            go_wp2_with fail
            go_region_law (fail)
            all_goals
              go_wp2_with fail
              go_roundw
              case rel =>
                have hFq : ∀ q, Fr (fun k => k = w5.heap.size) w7 ((w7.drewN q).setCell ⟨w5.heap.size, a * 8 + b, none⟩ (.int .i64 x2)) := fun q => Fr.setCell (S := fun k => k = w5.heap.size) ((Fr.refl _ _).drewN q) (p := ⟨w5.heap.size, a * 8 + b, none⟩) (.inl rfl) _
                refine ⟨n + 1, v7, L', lost', bs.set (a * 8 + b) x2, by omega, by go_num, by have := HN.out; omega, HO7.out.fr (hFq _) (fun h => hne5 h.symm) (fun g hg h => Hfv7.out (by rw [hg, h])), HI2.out, by exact HBs.out, Hfv7.out, Hb7.out.trans ((hFq _).below0 (by omega) (fun i hi => by rw [hi]; omega))⟩
              case measure => simp [intOf]; omega
          · have HBU2 : Hid (bestU bs ⟨a, b, x2⟩ = bs) := hid (by rw [HBU.out, if_neg hgt])
            rw [HBU2.out] at HI2
            go_wp2_with fail
            go_quiet (fail)
            go_wp2_with fail
            go_roundw
            case rel => exact ⟨n + 1, v7, L', lost', bs, by omega, by go_num, by have := HN.out; omega, HO7.out.fr (S := fun _ => False) ((Fr.refl _ _).drewN _) (fun h => h) (fun _ _ h => h), HI2.out, HB7.out.drewN _, Hfv7.out, Below.manyDrew Hb7.out _⟩
            case measure => simp [intOf]; omega
      · have hex : (n < s.xs.length ∧ ¬ (n : Int) < 60) ∨ ¬ n < s.xs.length := by
          by_cases h1 : n < s.xs.length
          · exact .inl ⟨h1, fun h => hlt ⟨h1, by omega⟩⟩
          · exact .inr h1
        clear hlt
        rcases hex with ⟨h1, h2⟩ | h1
        all_goals
          go_wp2_with fail
          go_meet
          exact ⟨v, L, lost, bs, hO, hI, hB, Hfv.out, hbr⟩
  case rest =>
  obtain ⟨v, L, lost, bs, hO, hI, hB, hfv, hbc⟩ := hcut
  have hg := hI.good
  have hL10 := hI.len
  have hzc := hbc.size
  have hh4 := hO.1.lt
  go_wp2_with fail
  refine (hall_any w4.heap.size w4.heap.size v L lost _ hO hg hL10).mono ?_
  rintro e w7 ⟨r, rfl, hrx, hrA, hrf, hb7⟩
  subst hrx
  have HO7 := hid (hO.belowS hb7)
  have HB7 := hid (hB.belowS hb7)
  have Hb7 := hid (show Below w.heap.size w w7 from Below.step hbc hb7 hzc)
  have HI := hid hI
  have Hrf := hid hrf
  clear hO hB hI hbc hb7 hfv hrf
  go_wp2_with fail
  refine (hlost_any w4.heap.size w4.heap.size v r.xs lost _ HO7.out).mono ?_
  rintro e w8 ⟨rfl, rfl⟩
  have hB := HB7.out
  have hBl := hB.lt
  have hsz := HI.out.size
  have Hsz := hid hsz
  have hcells : ∀ i, i < 48 → w7.cell? ⟨w5.heap.size, i, none⟩ = some (.int .i64 (bs.getD i 0)) := fun i hi => (hB.cell i).trans (ints_get _ _ (by rw [Hsz.out]; exact hi))
  have Hcells := hid hcells
  clear hB hsz hcells
  go_upto_block 2 with fail
  go_cut [15] (fun m wx => m = .int .i64 (cnt bs) ∧ wx = w7)
  case first =>
    as_aux_lemma =>
    go_wp2_with fail
    go_loop [15, 16] (fun m i => ∃ a : Nat, a ≤ 6 ∧ i = .int .i64 a ∧ m = .int .i64 (cnt (bs.take (a * 8)))) (fun _ i => 6 - (intOf i).toNat)
    case atStart => exact ⟨0, by omega, rfl, rfl⟩
    case round =>
      obtain ⟨a, ha, rfl, rfl⟩ := hrel
      by_cases ha6 : a < 6
      · go_wp2_with fail
        go_loop [15, 17] (fun m i => ∃ b : Nat, b ≤ 8 ∧ i = .int .i64 b ∧ m = .int .i64 (cnt (bs.take (a * 8 + b)))) (fun _ i => 8 - (intOf i).toNat)
        case atStart => exact ⟨0, by omega, rfl, rfl⟩
        case round =>
          obtain ⟨b, hb, rfl, rfl⟩ := hrel
          by_cases hb8 : b < 8
          · have hcell := Hcells.out (a * 8 + b) (by omega)
            have HC := hid (cnt_take bs (a * 8 + b) (by rw [Hsz.out]; omega))
            have hcb : cnt (bs.take (a * 8 + b)) ≤ 48 := by
              have h1 := List.length_filter_le (fun x : Int => decide (0 < x)) (bs.take (a * 8 + b))
              have h2 : (bs.take (a * 8 + b)).length ≤ 48 := by rw [List.length_take, Hsz.out]; omega
              unfold cnt; omega
            generalize bs.getD (a * 8 + b) 0 = x at *
            generalize cnt (bs.take (a * 8 + b)) = c at *
            by_cases hx : 0 < x
            · go_wp2_with fail
              go_round
              case rel => exact ⟨b + 1, by omega, by go_num, by rw [show a * 8 + (b + 1) = a * 8 + b + 1 from rfl, HC.out, if_pos hx]; go_num⟩
              case measure => simp [intOf]; omega
            · go_wp2_with fail
              go_round
              case rel => exact ⟨b + 1, by omega, by go_num, by rw [show a * 8 + (b + 1) = a * 8 + b + 1 from rfl, HC.out, if_neg hx]⟩
              case measure => simp [intOf]; omega
          · obtain rfl : b = 8 := by omega
            go_wp2_with fail
            go_round
            case rel => exact ⟨a + 1, by omega, by go_num, by rw [show (a + 1) * 8 = a * 8 + 8 by omega]⟩
            case measure => simp [intOf]; omega
      · obtain rfl : a = 6 := by omega
        go_wp2_with fail
        go_meet
        exact ⟨by rw [List.take_of_length_le (by rw [Hsz.out]; omega)], rfl⟩
  case rest =>
  obtain ⟨rfl, rfl⟩ := hcut
  obtain ⟨w7, rfl⟩ : ∃ w7 : World, w7 = wc := ⟨_, rfl⟩
  have hl10i : (r.xs.length : Int) ≤ 10 := by omega
  go_upto_region 29 with fail
  go_cut [141] (fun t wx => t = .bool false ∧ wx = w7)
  case first =>
    by_cases h0 : lost = 0
    · have hne : ((r.xs.length : Int) != ((cnt bs : Nat) : Int)) = false := by rw [HI.out.many h0]; simp
      subst h0
      go_wp2_with fail
      go_meet
      exact ⟨by rw [decide_eq_false (show ¬ (10 : Int) < (r.xs.length : Int) by omega)], rfl⟩
    · have hne : (lost == 0) = false := by rw [beq_eq_false_iff_ne]; exact h0
      go_wp2_with fail
      go_meet
      exact ⟨by rw [decide_eq_false (show ¬ (10 : Int) < (r.xs.length : Int) by omega)], rfl⟩
  case rest =>
  obtain ⟨rfl, rfl⟩ := hcut
  obtain ⟨w7, rfl⟩ : ∃ w7 : World, w7 = wc := ⟨_, rfl⟩
  go_upto_block 6 with fail
  go_cut [] (fun wx => Below w7.heap.size w7 wx)
  case first =>
    as_aux_lemma =>
    go_wp2_with fail
    go_loopw [18] (fun i wr => ∃ n : Nat, n ≤ r.xs.length ∧ i = .int .i64 n ∧ Below w7.heap.size w7 wr) (fun i _ => r.xs.length - (intOf i).toNat)
    case atStart => exact ⟨0, Nat.zero_le _, rfl, Below.refl _ _⟩
    case round =>
      obtain ⟨n, hn, rfl, hbr⟩ := hrel
      have hzr := hbr.size
      by_cases hlt : n < r.xs.length
      · obtain ⟨g, off, hA, hgl, hcells⟩ := hrA.row (by omega)
        obtain ⟨k0, k1, k2⟩ := (hcells n hlt).stays hbr hgl
        have hmem := getD_memD H.zero hlt
        have hxok := HI.out.ok _ hmem
        have HBest := hid (fun (h : lost = 0) => HI.out.best h _ hmem)
        have HAp := hid (fun k (hk : k < n) => HI.out.apart.get hk hlt)
        generalize r.xs.getD n H.zero = x at *
        obtain ⟨x0, x1, x2⟩ := x
        obtain ⟨hn1, hk1, hv1, hv2⟩ := hintOk_true.1 hxok
        obtain ⟨hn2, hn3⟩ := nodeB_true.1 hn1
        obtain ⟨hk2, hk3⟩ := keyB_true.1 hk1
        simp only at hn2 hn3 hk2 hk3 hv1 hv2 k0 k1 k2
        obtain ⟨a, rfl⟩ := Int.eq_ofNat_of_zero_le hn2
        obtain ⟨b, rfl⟩ := Int.eq_ofNat_of_zero_le hk2
        have hbest : wr.cell? ⟨w5.heap.size, a * 8 + b, none⟩ = some (.int .i64 (bs.getD (a * 8 + b) 0)) := (hbr.cell (p := ⟨w5.heap.size, _, none⟩) hBl).trans (Hcells.out _ (by omega))
        have HBest2 : Hid (lost = 0 → bs.getD (a * 8 + b) 0 = x2) := hid (fun h => HBest.out h)
        generalize bs.getD (a * 8 + b) 0 = cur at *
        have hX : HAt (wr.alloc (.cells #[.int .i64 a, .int .i64 b, .int .i64 x2] 29)) wr.heap.size 0 ⟨a, b, x2⟩ := HAt.of_blk (Blk.new wr _ _)
        have HX := hid hX
        have Hrow := hid hcells
        have HA := hid hA
        have hlx : w5.heap.size < wr.heap.size := by omega
        have hgr : g < wr.heap.size := Nat.lt_of_lt_of_le hgl hzr
        have hcase : (lost = 0 ∧ cur = x2) ∨ (lost == 0) = false := by
          by_cases h0 : lost = 0
          · exact .inl ⟨h0, HBest2.out h0⟩
          · exact .inr (by rw [beq_eq_false_iff_ne]; exact h0)
        have Hcase := hid hcase
        rw [hA]
        clear hA hcells hX hmem hxok hn1 hk1 hcase
        have d0 : decide ((a : Int) < 0) = false := decide_eq_false (by omega)
        have d1 : decide ((5 : Int) < (a : Int)) = false := decide_eq_false (by omega)
        have d2 : decide ((b : Int) < 0) = false := decide_eq_false (by omega)
        have d3 : decide ((7 : Int) < (b : Int)) = false := decide_eq_false (by omega)
        have hl2 : ((lost == 0) = true ∧ wr.cell? ⟨w5.heap.size, a * 8 + b, none⟩ = some (.int .i64 x2)) ∨ (lost == 0) = false := by
          rcases Hcase.out with ⟨h1, h2⟩ | h
          · exact .inl ⟨by rw [h1]; rfl, by rw [hbest, h2]⟩
          · exact .inr h
        have hl3 : ∃ c, wr.cell? ⟨w5.heap.size, a * 8 + b, none⟩ = some (.int .i64 c) ∧ (((lost == 0) = true ∧ x2 = c) ∨ (lost == 0) = false) := by
          rcases hl2 with ⟨h1, h2⟩ | h
          · exact ⟨x2, h2, .inl ⟨h1, rfl⟩⟩
          · exact ⟨cur, hbest, .inr h⟩
        clear hbest hl2
        obtain ⟨c, hbest, hl4⟩ := hl3
        rcases hl4 with ⟨hl0, rfl⟩ | hl0
        all_goals
          go_wp2_with fail
          go_quiet (fail)
          go_wp2_with fail
          go_loopw [20] (fun i w2 => ∃ k : Nat, k ≤ n ∧ i = .int .i64 k ∧ HAt w2 wr.heap.size 0 ⟨a, b, x2⟩ ∧ Below w7.heap.size w7 w2) (fun i _ => n - (intOf i).toNat)
          case atStart => exact ⟨0, Nat.zero_le _, rfl, HX.out.drewN _, by (repeat (first | with_reducible exact Below.refl _ _ | with_reducible assumption | (with_reducible refine Below.drew ?_) | (with_reducible refine Below.manyDrew ?_ _) | ((with_reducible refine Below.alloc ?_ ?_ _); rotate_left; (focus (first | omega | (dsimp only; omega) | (simp; done) | (simp; omega)))) | ((with_reducible refine Below.setCell ?_ ?_ _); rotate_left; (focus (first | omega | (dsimp only; omega) | (simp; done) | (simp; omega)))) | ((with_reducible refine Below.step ?_ (by assumption) ?_); rotate_left; (focus (first | omega | (dsimp only; omega) | (simp; done) | (simp; omega))))))⟩
          case round =>
            obtain ⟨k, hk, rfl, hX2, hb2⟩ := hrel
            by_cases hkn : k < n
            · obtain ⟨j0, j1, j2⟩ := (Hrow.out k (by omega)).stays hb2 hgl
              have hap := HAp.out k hkn
              have HX2 := hid hX2
              obtain ⟨q0, q1, q2⟩ := hX2
              simp only [Nat.zero_add] at q0 q1 q2
              generalize r.xs.getD k H.zero = y at *
              obtain ⟨y0, y1, y2⟩ := y
              simp only at j0 j1 j2
              have hd : (¬ y0 = (a : Int)) ∨ (y0 = (a : Int) ∧ ¬ y1 = (b : Int)) := by
                by_cases h0 : y0 = (a : Int)
                · by_cases h1 : y1 = (b : Int)
                  · rw [← Bool.not_eq_true] at hap
                    exact absurd (by simp [alikeH, h0, h1]) hap
                  · exact .inr ⟨h0, h1⟩
                · exact .inl h0
              have Hd := hid hd
              clear hap hd
              rcases Hd.out with h0 | ⟨rfl, h1⟩
              · have h0b : (y0 == (a : Int)) = false := by rw [beq_eq_false_iff_ne]; exact h0
                go_wp2_with fail
                go_quiet (fail)
                go_wp2_with fail
                go_roundw
                case rel => exact ⟨k + 1, by omega, by go_num, HX2.out.drewN _, Below.manyDrew hb2 _⟩
                case measure => simp [intOf]; omega
              · have h1b : (y1 == (b : Int)) = false := by rw [beq_eq_false_iff_ne]; exact h1
                go_wp2_with fail
                go_quiet (fail)
                go_wp2_with fail
                go_roundw
                case rel => exact ⟨k + 1, by omega, by go_num, HX2.out.drewN _, Below.manyDrew hb2 _⟩
                case measure => simp [intOf]; omega
            · obtain rfl : k = n := by omega
              go_wp2_with fail
              go_roundw
              case rel => exact ⟨k + 1, by omega, by go_num, hb2⟩
              case measure => simp [intOf]; omega
      · obtain rfl : n = r.xs.length := by omega
        go_wp2_with fail
        go_meet
        exact hbr
  case rest =>
  obtain ⟨w9, rfl⟩ : ∃ w9 : World, w9 = wc := ⟨_, rfl⟩
  have hz9 := hcut.size
  have HO9 := hid (HO7.out.belowS hcut)
  have HI9 := hid (HI.out.good)
  have Hb9 := hid (show Below w.heap.size w w9 from Below.step Hb7.out hcut Hb7.out.size)
  have hr9 := hrA.stays hcut
  have Hr9 := hid hr9
  clear hcut hrA hr9
  rcases hnd : nodeB node with _ | _
  · have Hn := hid hnd
    have hn' := nodeB_false.1 hnd
    clear hnd
    rcases (show node < 0 ∨ (0 ≤ node ∧ 5 < node) by omega) with h1 | ⟨h1, h2⟩
    all_goals
      go_wp2_with fail
      refine (htake_no node w4.heap.size _ Hn.out).mono ?_
      rintro e w10 ⟨rfl, rfl⟩
      rw [errV_ne (show (1 : Int) ≠ 0 by decide)]
      go_wp2_with fail
      go_ret
      first
        | exact ⟨rfl, Hb9.out⟩
        | exact ⟨ret_b (by simp; omega), Hb9.out⟩
  · have Hn := hid hnd
    clear hnd
    go_wp2_with fail
    refine (htake_any node w4.heap.size w4.heap.size v r.xs lost _ HO9.out hg hL10 Hn.out).mono ?_
    rintro e w10 ⟨t, v', rfl, htx, htA, htf, hO10, hf10, hF10⟩
    have hz10 := hF10.size
    have hr10 : HsAt w10 r := Hr9.out.fr hF10 (fun h0 b off hA e => by have := Hrf.out h0 b off hA; omega)
    have Hb10 := hid (show Below w.heap.size w w10 from Hb9.out.trans (hF10.below0 Hb9.out.size (fun i hi => by rw [hi]; exact h4w)))
    have HO10 := hid hO10
    have Htx := hid htx
    have Hr10 := hid hr10
    have Htl : Hid (t.xs.length ≤ 10) := hid (by rw [htx]; exact Nat.le_trans (List.length_filter_le _ _) hL10)
    clear hO10 hF10 hf10 htf htx hr10
    go_wp2_with fail
    refine (hall_any w4.heap.size w4.heap.size v' (leftL node r.xs) lost _ HO10.out (fun y hy => hg y (List.mem_filter.1 hy).1) (Nat.le_trans (List.length_filter_le _ _) hL10)).mono ?_
    rintro e w11 ⟨q, rfl, hqx, hqA, hqf, hb11⟩
    have hr11 := Hr10.out.stays hb11
    have ht11 := htA.stays hb11
    have Hb11 := hid (show Below w.heap.size w w11 from Below.step Hb10.out hb11 Hb10.out.size)
    have Hqx := hid hqx
    have Hql : Hid (q.xs.length ≤ 10) := hid (by rw [hqx]; exact Nat.le_trans (List.length_filter_le _ _) hL10)
    clear hqf hb11 hqx htA
    go_wp2_with fail
    go_loopw [24, 25, 26] (fun a b i wr => ∃ n : Nat, n ≤ r.xs.length ∧ i = .int .i64 n ∧ a = .int .i64 (takenL node (r.xs.take n)).length ∧ b = .int .i64 (leftL node (r.xs.take n)).length ∧ Below w11.heap.size w11 wr) (fun _ _ i _ => r.xs.length - (intOf i).toNat)
    case atStart => exact ⟨0, Nat.zero_le _, rfl, rfl, rfl, Below.refl _ _⟩
    case round =>
      obtain ⟨n, hn, rfl, rfl, rfl, hbr⟩ := hrel
      have hzr := hbr.size
      by_cases hlt : n < r.xs.length
      · obtain ⟨g, off, hA, hgl, hcells⟩ := hr11.row (by omega)
        obtain ⟨k0, k1, k2⟩ := (hcells n hlt).stays hbr hgl
        have HT := hid (take_snocD H.zero hlt)
        have HS1 := hid (takenL_snoc node (r.xs.take n) (r.xs.getD n H.zero))
        have HS2 := hid (leftL_snoc node (r.xs.take n) (r.xs.getD n H.zero))
        rw [← HT.out] at HS1 HS2
        have hta : (takenL node (r.xs.take n)).length ≤ 10 := Nat.le_trans (List.length_filter_le _ _) (by rw [List.length_take]; omega)
        have hle : (leftL node (r.xs.take n)).length ≤ 10 := Nat.le_trans (List.length_filter_le _ _) (by rw [List.length_take]; omega)
        by_cases hx : (r.xs.getD n H.zero).node = node
        · obtain ⟨hf1, hf2⟩ := filter_at (fun x : H => decide (x.node = node)) H.zero r.xs n hlt (decide_eq_true hx)
          rw [show r.xs.filter (fun x : H => decide (x.node = node)) = t.xs from Htx.out.symm] at hf1 hf2
          rw [show (r.xs.take n).filter (fun x : H => decide (x.node = node)) = takenL node (r.xs.take n) from rfl] at hf1 hf2
          obtain ⟨g2, off2, hA2, hgl2, hcells2⟩ := ht11.row (by omega)
          have hat := (hcells2 _ hf1).stays hbr hgl2
          rw [hf2] at hat
          obtain ⟨j0, j1, j2⟩ := hat
          rw [if_pos hx] at HS1 HS2
          have HS1l : Hid ((takenL node (r.xs.take (n + 1))).length = (takenL node (r.xs.take n)).length + 1) := hid (by rw [HS1.out, List.length_append, List.length_singleton])
          have HS2l : Hid ((leftL node (r.xs.take (n + 1))).length = (leftL node (r.xs.take n)).length) := hid (by rw [HS2.out])
          generalize r.xs.getD n H.zero = y at *
          obtain ⟨y0, y1, y2⟩ := y
          simp only at hx k0 k1 k2 j0 j1 j2
          subst hx
          generalize (takenL y0 (r.xs.take n)).length = A at *
          generalize (leftL y0 (r.xs.take n)).length = B at *
          have hAi : (A : Int) < (t.xs.length : Int) := by omega
          have hAd : decide ((t.xs.length : Int) ≤ (A : Int)) = false := decide_eq_false (by omega)
          rw [hA, hA2]
          clear hA hA2 hcells hcells2 hf2
          go_wp2_with fail
          go_quiet (fail)
          go_wp2_with fail
          go_roundw
          case rel => exact ⟨n + 1, by omega, by go_num, by rw [HS1l.out]; go_num, by rw [HS2l.out], Below.manyDrew hbr _⟩
          case measure => simp [intOf]; omega
        · obtain ⟨hf1, hf2⟩ := filter_at (fun x : H => !decide (x.node = node)) H.zero r.xs n hlt (by simp only [Bool.not_eq_true']; exact decide_eq_false hx)
          rw [show r.xs.filter (fun x : H => !decide (x.node = node)) = q.xs from Hqx.out.symm] at hf1 hf2
          rw [show (r.xs.take n).filter (fun x : H => !decide (x.node = node)) = leftL node (r.xs.take n) from rfl] at hf1 hf2
          obtain ⟨g2, off2, hA2, hgl2, hcells2⟩ := hqA.row (by omega)
          have hat := (hcells2 _ hf1).stays hbr hgl2
          rw [hf2] at hat
          obtain ⟨j0, j1, j2⟩ := hat
          rw [if_neg hx] at HS1 HS2
          have HS1l : Hid ((takenL node (r.xs.take (n + 1))).length = (takenL node (r.xs.take n)).length) := hid (by rw [HS1.out])
          have HS2l : Hid ((leftL node (r.xs.take (n + 1))).length = (leftL node (r.xs.take n)).length + 1) := hid (by rw [HS2.out, List.length_append, List.length_singleton])
          generalize r.xs.getD n H.zero = y at *
          obtain ⟨y0, y1, y2⟩ := y
          simp only at hx k0 k1 k2 j0 j1 j2
          generalize (takenL node (r.xs.take n)).length = A at *
          generalize (leftL node (r.xs.take n)).length = B at *
          have hBi : (B : Int) < (q.xs.length : Int) := by omega
          have hBd : decide ((q.xs.length : Int) ≤ (B : Int)) = false := decide_eq_false (by omega)
          rw [hA, hA2]
          clear hA hA2 hcells hcells2 hf2
          go_wp2_with fail
          go_quiet (fail)
          go_wp2_with fail
          go_roundw
          case rel => exact ⟨n + 1, by omega, by go_num, by rw [HS1l.out], by rw [HS2l.out]; go_num, Below.manyDrew hbr _⟩
          case measure => simp [intOf]; omega
      · obtain rfl : n = r.xs.length := by omega
        have h1 : (takenL node (r.xs.take r.xs.length)).length = t.xs.length := by rw [List.take_length, Htx.out]
        have h2 : (leftL node (r.xs.take r.xs.length)).length = q.xs.length := by rw [List.take_length, Hqx.out]
        rw [h1, h2]
        clear h1 h2
        go_wp2_with fail
        go_ret
        exact ⟨rfl, Below.step Hb11.out hbr Hb11.out.size⟩

set_option maxRecDepth 100000 in
theorem hintNewest_walk : LawWalk Try.prog 3 Try.f3 (fun _ => True) := by
  intro W base args H enc ds p hval hA _
  rw [Try.params3] at hA hval
  obtain ⟨v0, v1, d0, d1, p0, p1, rfl, rfl, rfl, h0, h1⟩ := trodAll_two hA
  obtain ⟨s, rfl, hs⟩ := arg_slice Try.underlying22 codecH (pos_of_eq Try.cellsH (by decide)) (hval 0 22 v0 rfl rfl) h0
  obtain ⟨node, rfl, _⟩ := arg_int Try.underlying3 (hval 1 3 v1 rfl rfl) h1
  exact hintNewest_any s node W (HsAt_of hs)

set_option maxRecDepth 100000 in
theorem hintNewest_lifted (os : Os) (started : os.Started) (H : Type) (enc : TypeId × Value → H) :
    ReturnsInHanded {} Try.checked os 3 .any (Rows.hintNewestSpec.pre6 enc Try.prog Try.f3 Rows.hintNewestRow.domain false) (Rows.hintNewestSpec.post enc Try.prog Try.f3 false true false false) :=
  law_lifted (C := Try.checked) Rows.hintNewestRow.domain Try.own started (by kernel_rfl) Try.func3 Try.laidOut (by kernel_rfl) rfl Try.underlying4 rfl (fun ds h => by match ds, h with | [_, _], _ => rfl)
    (ChangeSpec.witness6 (enc := enc) (C := Try.checked) false ⟨#[], #[.slice none 0 0, .int .i64 0], []⟩ 8 (by kernel_rfl) (by kernel_rfl) (by kernel_rfl) (by kernel_rfl)) hintNewest_walk

theorem hintNewest_holds : Rows.HintNewestSaid :=
  OpenClaim.holds_of_wide 3 Try.f3 rfl rfl rfl rfl rfl rfl rfl ⟨rfl, rfl, rfl, rfl, rfl⟩ rfl rfl rfl rfl rfl (by kernel_rfl) Try.func3 (by kernel_rfl)
    (of_decide_eq_true (by kernel_rfl)) (by unfold Func.isWrapper; rw [if_neg (of_decide_eq_false (by kernel_rfl))]; exact ⟨rfl, rfl⟩)
    (fun os started H enc _ => hintNewest_lifted os started H enc)

end Go.Proofs.Ytjhphagcmiggdaa
