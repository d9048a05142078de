/-
  CONTRACT of the reference's mereref2.Read, at right caches. CONDITIONS: none.
-/
import Derived.Test.YtdocdmpfokdjkaaDoorRepLaw
import Derived.Test.YtdocdmpfokdjkaaDoorRCache
import Derived.Test.YtdocdmpfokdjkaaDoorBoxR
import Derived.Deep.CutBlock
import Derived.Deep.DeepCutAuto
namespace Go.Proofs.YtdocdmpfokdjkaaDoor
open Go.RowKit
open Go.ChangeShapes Go.WideShapes Go.ChangeAt

theorem Blk.far5 {w : World} {g b : Nat} {t : TypeId} {cs : Array Value} (h : Blk w g t cs) (hn : g ≠ b) (x0 x1 x2 x3 x4 : Value) :
    Blk (((((w.setCell ⟨b, 0, none⟩ x0).setCell ⟨b, 1, none⟩ x1).setCell ⟨b, 2, none⟩ x2).setCell ⟨b, 3, none⟩ x3).setCell ⟨b, 4, none⟩ x4) g t cs :=
  ((((h.far (p := ⟨b, 0, none⟩) hn _).far (p := ⟨b, 1, none⟩) hn _).far (p := ⟨b, 2, none⟩) hn _).far (p := ⟨b, 3, none⟩) hn _).far (p := ⟨b, 4, none⟩) hn _

set_option maxHeartbeats 4000000 in
set_option maxRecDepth 100000 in
theorem rread_any (s : SlV (SlV E)) (k : Int) (w : World) (hs : CachesAt w s) (hch : ∀ c ∈ s.xs, chkC c.xs = 0) :
    Calls Tryd.prog 19 #[.slice s.A s.xs.length s.c, .int .i64 k] w fun e w' => e = .returned (.tuple #[(readG k false E.zero s.xs).1.val, .int .i64 (readG k false E.zero s.xs).2]) ∧ Below w.heap.size w w' := by
  have Hs := hid hs
  have Hch := hid hch
  have hlen := hs.len
  unfold maxLen at hlen
  generalize hR : readG k false E.zero s.xs = R
  have HR := hid hR
  clear hs hch hR
  go_enter Tryd.func19, Tryd.ntmps19
  go_wp2_with fail
  go_loopw [7, 8] (fun f i wr => ∃ (j : Nat) (fb : Bool) (o : E), j ≤ s.xs.length ∧ f = .bool fb ∧ i = .int .i64 j ∧ (fb = true → o.key = k) ∧ readG k fb o (s.xs.drop j) = R ∧ Blk wr (w.heap.size + 1) 47 #[.int .i64 o.key, .int .i64 o.ver, .int .i64 o.asof, .bool o.gone, .string o.text] ∧ Blk wr w.heap.size 47 #[.int .i64 0, .int .i64 0, .int .i64 0, .bool false, .string ⟨#[]⟩] ∧ Below w.heap.size w wr) (fun _ i _ => s.xs.length - (intOf i).toNat)
  case atStart => exact ⟨0, false, E.zero, Nat.zero_le _, rfl, rfl, (fun h => by cases h), HR.out, Blk.new_at (by simp), (Blk.new _ _ _).alloc _, by (repeat (first | with_reducible exact Below.refl _ _ | with_reducible assumption | (with_reducible refine Below.drew ?_) | (with_reducible refine Below.manyDrew ?_ _) | ((with_reducible refine Below.alloc ?_ ?_ _); rotate_left; (focus (first | omega | (dsimp only; omega) | (simp; done) | (simp; omega)))) | ((with_reducible refine Below.setCell ?_ ?_ _); rotate_left; (focus (first | omega | (dsimp only; omega) | (simp; done) | (simp; omega)))) | ((with_reducible refine Below.step ?_ (by assumption) ?_); rotate_left; (focus (first | omega | (dsimp only; omega) | (simp; done) | (simp; omega))))))⟩
  case round =>
    obtain ⟨j, fb, o, hj, rfl, rfl, hok, hkr, hB, hZ, hbr⟩ := hrel
    have hz0 := hbr.size
    have hlo := hB.lt
    have HB := hid hB
    have HZ := hid hZ
    have Hbr := hid hbr
    have Hok := hid hok
    clear hok
    by_cases hlt : j < s.xs.length
    · obtain ⟨b, off, hA, hb, hcells⟩ := Hs.out.row (by omega)
      have hcell := hcells j hlt
      have hin := (Hs.out.each j hlt).stays hbr
      rw [← hbr.cell (p := ⟨b, off + j, none⟩) hb] at hcell
      have hcc := Hch.out _ (List.getElem_mem hlt)
      have hd : s.xs.drop j = s.xs[j] :: s.xs.drop (j + 1) := List.drop_eq_getElem_cons hlt
      rw [hd, readG_cons k fb o _ _ hcc] at hkr
      generalize s.xs[j] = c at *
      have hG := rget_any c k wr hin
      have HA := hid hA
      rw [hA]
      cases hlk : lk c.xs k with
      | none =>
        rw [hlk] at hkr
        rw [show rget c.xs k = (E.zero, false) by rw [rget, hlk]] at hG
        have Hkr := hid hkr
        have HG := hid hG
        clear hkr hlk hd hA hcells hB hZ hbr hcc hin hG
        go_wp2_with fail
        refine HG.out.mono ?_
        rintro e w2 ⟨rfl, hb2⟩
        have HB2 := hid (HB.out.belowS hb2)
        have HZ2 := hid (HZ.out.belowS hb2)
        have Hb2 := hid (Below.step Hbr.out hb2 hz0)
        have hz2 := Hb2.out.size
        clear hb2 HG hcell
        rw [show E.zero.val = .agg #[.int .i64 0, .int .i64 0, .int .i64 0, .bool false, .string ⟨#[]⟩] from rfl]
        go_wp2_with fail
        go_roundw
        case rel => exact ⟨j + 1, fb, o, by omega, rfl, by go_num, Hok.out, Hkr.out, HB2.out.alloc _, HZ2.out.alloc _, Hb2.out.alloc hz2 _⟩
        case measure => simp [intOf]; omega
      | some y =>
        rw [hlk] at hkr
        rw [show rget c.xs k = (y, true) by rw [rget, hlk]] at hG
        obtain ⟨hym, hyk⟩ := lk_some hlk
        have Hyk := hid hyk
        obtain ⟨y0, y1, y2, y3, y4⟩ := y
        simp only [E.val] at hG hkr
        have HG := hid hG
        rcases fb with _ | _
        · rw [if_neg (by decide)] at hkr
          have Hkr := hid hkr
          have hBc := hB
          clear hkr hlk hd hA hcells hB hZ hbr hcc hin hG hym hyk
          go_wp2_with fail
          refine HG.out.mono ?_
          rintro e w2 ⟨rfl, hb2⟩
          have HZ2 := hid (HZ.out.belowS hb2)
          have Hb2 := hid (Below.step Hbr.out hb2 hz0)
          have hz2 := Hb2.out.size
          have hB2 := HB.out.belowS hb2
          have x0 : w2.cell? ⟨w.heap.size + 1, 0, none⟩ = some (.int .i64 o.key) := hB2.cell 0
          have x1 : w2.cell? ⟨w.heap.size + 1, 1, none⟩ = some (.int .i64 o.ver) := hB2.cell 1
          have x2 : w2.cell? ⟨w.heap.size + 1, 2, none⟩ = some (.int .i64 o.asof) := hB2.cell 2
          have x3 : w2.cell? ⟨w.heap.size + 1, 3, none⟩ = some (.bool o.gone) := hB2.cell 3
          have x4 : w2.cell? ⟨w.heap.size + 1, 4, none⟩ = some (.string o.text) := hB2.cell 4
          have f0 := hB2.frozen 0
          have f1 := hB2.frozen 1
          have f2 := hB2.frozen 2
          have f3 := hB2.frozen 3
          have f4 := hB2.frozen 4
          have hl2 := hB2.lt
          have HB2 := hid hB2
          clear hb2 HG hcell hB2 hBc
          go_wp2_with fail
          go_roundw
          case rel => exact ⟨j + 1, true, ⟨y0, y1, y2, y3, y4⟩, by omega, rfl, by go_num, (fun _ => Hyk.out), Hkr.out, (Blk.put5 HB2.out _ _ _ _ _).alloc _, (HZ2.out.far5 (by omega) _ _ _ _ _).alloc _, by have := Hb2.out; (repeat (first | with_reducible exact Below.refl _ _ | with_reducible assumption | (with_reducible refine Below.drew ?_) | (with_reducible refine Below.manyDrew ?_ _) | ((with_reducible refine Below.alloc ?_ ?_ _); rotate_left; (focus (first | omega | (dsimp only; omega) | (simp; done) | (simp; omega)))) | ((with_reducible refine Below.setCell ?_ ?_ _); rotate_left; (focus (first | omega | (dsimp only; omega) | (simp; done) | (simp; omega)))) | ((with_reducible refine Below.step ?_ (by assumption) ?_); rotate_left; (focus (first | omega | (dsimp only; omega) | (simp; done) | (simp; omega))))))⟩
          case measure => simp [intOf]; omega
        · rw [if_pos rfl] at hkr
          have hok := Hok.out rfl
          obtain ⟨o0, o1, o2, o3, o4⟩ := o
          simp only at hok
          have hJ := fun W => rjoin_any o0 o1 o2 o3 o4 y0 y1 y2 y3 y4 W
          rw [← joined_rjoin (hok.trans hyk.symm)] at hJ
          have hJk := fun (h : (joined ⟨o0, o1, o2, o3, o4⟩ ⟨y0, y1, y2, y3, y4⟩).2 = 0) => (joined_jn (a := ⟨o0, o1, o2, o3, o4⟩) (b := ⟨y0, y1, y2, y3, y4⟩) (hok.trans hyk.symm) h).key (hok.trans hyk.symm)
          generalize joined ⟨o0, o1, o2, o3, o4⟩ ⟨y0, y1, y2, y3, y4⟩ = RJ at *
          obtain ⟨⟨r0, r1, r2, r3, r4⟩, en⟩ := RJ
          simp only [E.val] at hJ hkr hJk
          have HJ := hid hJ
          have Hkr := hid hkr
          have HJk := hid hJk
          clear hkr hlk hd hA hcells hB hZ hbr hcc hin hG hym hyk hok hJ hJk Hok
          go_wp2_with fail
          refine HG.out.mono ?_
          rintro e w2 ⟨rfl, hb2⟩
          have hB2 := HB.out.belowS hb2
          have hZ2 := HZ.out.belowS hb2
          have hbw2 := Below.step Hbr.out hb2 hz0
          have hz2 := hbw2.size
          clear hb2 HG hcell
          go_upto_region 7 with fail
          obtain ⟨w3, hw3⟩ : ∃ W : World, W = w2.alloc (.cells #[.int .i64 y0, .int .i64 y1, .int .i64 y2, .bool y3, .string y4] 47) := ⟨_, rfl⟩
          rw [← hw3]
          have hY3 : Blk w3 w2.heap.size 47 #[.int .i64 y0, .int .i64 y1, .int .i64 y2, .bool y3, .string y4] := by rw [hw3]; exact Blk.new _ _ _
          have hB3 : Blk w3 (w.heap.size + 1) 47 #[.int .i64 o0, .int .i64 o1, .int .i64 o2, .bool o3, .string o4] := by rw [hw3]; exact hB2.alloc _
          have HZ3 := hid (show Blk w3 w.heap.size 47 #[.int .i64 0, .int .i64 0, .int .i64 0, .bool false, .string ⟨#[]⟩] by rw [hw3]; exact hZ2.alloc _)
          have Hb3 := hid (show Below w.heap.size w w3 by rw [hw3]; exact hbw2.alloc hz2 _)
          have HB3 := hid hB3
          have hl3 := hB3.lt
          have hy3 := hY3.lt
          clear hw3 hZ2 hB2 hbw2
          go_upto_region 12 with fail
          go_cut [11] (fun f wx => f = .int .i64 en ∧ Blk wx (w.heap.size + 1) 47 #[.int .i64 r0, .int .i64 r1, .int .i64 r2, .bool r3, .string r4] ∧ Blk wx w.heap.size 47 #[.int .i64 0, .int .i64 0, .int .i64 0, .bool false, .string ⟨#[]⟩] ∧ Below w.heap.size w wx)
          case first =>
            have x0 : w3.cell? ⟨w.heap.size + 1, 0, none⟩ = some (.int .i64 o0) := hB3.cell 0
            have x1 : w3.cell? ⟨w.heap.size + 1, 1, none⟩ = some (.int .i64 o1) := hB3.cell 1
            have x2 : w3.cell? ⟨w.heap.size + 1, 2, none⟩ = some (.int .i64 o2) := hB3.cell 2
            have x3 : w3.cell? ⟨w.heap.size + 1, 3, none⟩ = some (.bool o3) := hB3.cell 3
            have x4 : w3.cell? ⟨w.heap.size + 1, 4, none⟩ = some (.string o4) := hB3.cell 4
            have e0 : w3.cell? ⟨w2.heap.size, 0, none⟩ = some (.int .i64 y0) := hY3.cell 0
            have e1 : w3.cell? ⟨w2.heap.size, 1, none⟩ = some (.int .i64 y1) := hY3.cell 1
            have e2 : w3.cell? ⟨w2.heap.size, 2, none⟩ = some (.int .i64 y2) := hY3.cell 2
            have e3 : w3.cell? ⟨w2.heap.size, 3, none⟩ = some (.bool y3) := hY3.cell 3
            have e4 : w3.cell? ⟨w2.heap.size, 4, none⟩ = some (.string y4) := hY3.cell 4
            clear hB3 hY3
            go_wp2_with fail
            refine (HJ.out _).mono ?_
            rintro e w4 ⟨rfl, hb4⟩
            have hB4 := HB3.out.belowS hb4
            have x0 : w4.cell? ⟨w.heap.size + 1, 0, none⟩ = some (.int .i64 o0) := hB4.cell 0
            have x1 : w4.cell? ⟨w.heap.size + 1, 1, none⟩ = some (.int .i64 o1) := hB4.cell 1
            have x2 : w4.cell? ⟨w.heap.size + 1, 2, none⟩ = some (.int .i64 o2) := hB4.cell 2
            have x3 : w4.cell? ⟨w.heap.size + 1, 3, none⟩ = some (.bool o3) := hB4.cell 3
            have x4 : w4.cell? ⟨w.heap.size + 1, 4, none⟩ = some (.string o4) := hB4.cell 4
            have f0 := hB4.frozen 0
            have f1 := hB4.frozen 1
            have f2 := hB4.frozen 2
            have f3 := hB4.frozen 3
            have f4 := hB4.frozen 4
            have hl4 := hB4.lt
            have HB4 := hid hB4
            have HZ4 := hid (HZ3.out.belowS hb4)
            have Hb4 := hid (Below.step Hb3.out hb4 Hb3.out.size)
            clear hB4 hb4
            go_wp2_with fail
            go_meet
            exact ⟨rfl, HB4.out.put5 _ _ _ _ _, HZ4.out.far5 (by omega) _ _ _ _ _, by have := Hb4.out; (repeat (first | with_reducible exact Below.refl _ _ | with_reducible assumption | (with_reducible refine Below.drew ?_) | (with_reducible refine Below.manyDrew ?_ _) | ((with_reducible refine Below.alloc ?_ ?_ _); rotate_left; (focus (first | omega | (dsimp only; omega) | (simp; done) | (simp; omega)))) | ((with_reducible refine Below.setCell ?_ ?_ _); rotate_left; (focus (first | omega | (dsimp only; omega) | (simp; done) | (simp; omega)))) | ((with_reducible refine Below.step ?_ (by assumption) ?_); rotate_left; (focus (first | omega | (dsimp only; omega) | (simp; done) | (simp; omega))))))⟩
          case rest =>
          obtain ⟨rfl, hB5, hZ5, hb5⟩ := hcut
          obtain ⟨w5, rfl⟩ : ∃ w5 : World, w5 = wc := ⟨_, rfl⟩
          have HB5 := hid hB5
          have HZ5 := hid hZ5
          have Hb5 := hid hb5
          clear hB5 hb5 hB3 hY3
          by_cases hen : en = 0
          · subst hen
            have Hkr2 := hid ((if_pos rfl).symm.trans Hkr.out)
            have Hk2 := hid ((HJk.out rfl).trans Hyk.out)
            clear hZ5
            go_wp2_with fail
            go_roundw
            case rel => exact ⟨j + 1, true, ⟨r0, r1, r2, r3, r4⟩, by omega, rfl, by go_num, (fun _ => Hk2.out), Hkr2.out, HB5.out, HZ5.out, Hb5.out⟩
            case measure => simp [intOf]; omega
          · have hrr : R = (E.zero, en) := by rw [← Hkr.out, if_neg hen]
            have Hrr := hid hrr
            have heb : (en == 0) = false := by rw [beq_eq_false_iff_ne]; exact hen
            have y0 : w5.cell? ⟨w.heap.size, 0, none⟩ = some (.int .i64 0) := hZ5.cell 0
            have y1 : w5.cell? ⟨w.heap.size, 1, none⟩ = some (.int .i64 0) := hZ5.cell 1
            have y2 : w5.cell? ⟨w.heap.size, 2, none⟩ = some (.int .i64 0) := hZ5.cell 2
            have y3 : w5.cell? ⟨w.heap.size, 3, none⟩ = some (.bool false) := hZ5.cell 3
            have y4 : w5.cell? ⟨w.heap.size, 4, none⟩ = some (.string ⟨#[]⟩) := hZ5.cell 4
            have f0 := hZ5.frozen 0
            have f1 := hZ5.frozen 1
            have f2 := hZ5.frozen 2
            have f3 := hZ5.frozen 3
            have f4 := hZ5.frozen 4
            have hl5 := hZ5.lt
            clear hrr hen hZ5
            go_wp2_with fail
            refine bodyPost_ret (v := .tuple #[E.zero.val, .int .i64 en]) ?_ rfl ⟨by rw [Hrr.out], ?_⟩
            · exact results_box Tryd.results19 rfl (Blk.put5 HZ5.out _ _ _ _ _) Tryd.underlying47 rfl (by kernel_rfl)
            · have := Hb5.out; (repeat (first | with_reducible exact Below.refl _ _ | with_reducible assumption | (with_reducible refine Below.drew ?_) | (with_reducible refine Below.manyDrew ?_ _) | ((with_reducible refine Below.alloc ?_ ?_ _); rotate_left; (focus (first | omega | (dsimp only; omega) | (simp; done) | (simp; omega)))) | ((with_reducible refine Below.setCell ?_ ?_ _); rotate_left; (focus (first | omega | (dsimp only; omega) | (simp; done) | (simp; omega)))) | ((with_reducible refine Below.step ?_ (by assumption) ?_); rotate_left; (focus (first | omega | (dsimp only; omega) | (simp; done) | (simp; omega))))))
    · obtain rfl : j = s.xs.length := by omega
      rw [List.drop_length, readG] at hkr
      have x0 : wr.cell? ⟨w.heap.size + 1, 0, none⟩ = some (.int .i64 o.key) := hB.cell 0
      have x1 : wr.cell? ⟨w.heap.size + 1, 1, none⟩ = some (.int .i64 o.ver) := hB.cell 1
      have x2 : wr.cell? ⟨w.heap.size + 1, 2, none⟩ = some (.int .i64 o.asof) := hB.cell 2
      have x3 : wr.cell? ⟨w.heap.size + 1, 3, none⟩ = some (.bool o.gone) := hB.cell 3
      have x4 : wr.cell? ⟨w.heap.size + 1, 4, none⟩ = some (.string o.text) := hB.cell 4
      have y0 : wr.cell? ⟨w.heap.size, 0, none⟩ = some (.int .i64 0) := hZ.cell 0
      have y1 : wr.cell? ⟨w.heap.size, 1, none⟩ = some (.int .i64 0) := hZ.cell 1
      have y2 : wr.cell? ⟨w.heap.size, 2, none⟩ = some (.int .i64 0) := hZ.cell 2
      have y3 : wr.cell? ⟨w.heap.size, 3, none⟩ = some (.bool false) := hZ.cell 3
      have y4 : wr.cell? ⟨w.heap.size, 4, none⟩ = some (.string ⟨#[]⟩) := hZ.cell 4
      have f0 := hZ.frozen 0
      have f1 := hZ.frozen 1
      have f2 := hZ.frozen 2
      have f3 := hZ.frozen 3
      have f4 := hZ.frozen 4
      have hl5 := hZ.lt
      clear hB hZ hbr
      rcases fb with _ | _
      · rw [if_neg (by decide)] at hkr
        subst hkr
        go_wp2_with fail
        refine bodyPost_ret (v := .tuple #[E.zero.val, .int .i64 5]) ?_ rfl ⟨rfl, ?_⟩
        · exact results_box Tryd.results19 rfl (Blk.put5 HZ.out _ _ _ _ _) Tryd.underlying47 rfl (by kernel_rfl)
        · have := Hbr.out; (repeat (first | with_reducible exact Below.refl _ _ | with_reducible assumption | (with_reducible refine Below.drew ?_) | (with_reducible refine Below.manyDrew ?_ _) | ((with_reducible refine Below.alloc ?_ ?_ _); rotate_left; (focus (first | omega | (dsimp only; omega) | (simp; done) | (simp; omega)))) | ((with_reducible refine Below.setCell ?_ ?_ _); rotate_left; (focus (first | omega | (dsimp only; omega) | (simp; done) | (simp; omega)))) | ((with_reducible refine Below.step ?_ (by assumption) ?_); rotate_left; (focus (first | omega | (dsimp only; omega) | (simp; done) | (simp; omega))))))
      · rw [if_pos rfl] at hkr
        subst hkr
        obtain ⟨o0, o1, o2, o3, o4⟩ := o
        simp only at x0 x1 x2 x3 x4
        go_wp2_with fail
        refine bodyPost_ret (v := .tuple #[E.val ⟨o0, o1, o2, o3, o4⟩, .int .i64 0]) ?_ rfl ⟨rfl, ?_⟩
        · exact results_box Tryd.results19 rfl (Blk.put5 HZ.out _ _ _ _ _) Tryd.underlying47 rfl (by kernel_rfl)
        · have := Hbr.out; (repeat (first | with_reducible exact Below.refl _ _ | with_reducible assumption | (with_reducible refine Below.drew ?_) | (with_reducible refine Below.manyDrew ?_ _) | ((with_reducible refine Below.alloc ?_ ?_ _); rotate_left; (focus (first | omega | (dsimp only; omega) | (simp; done) | (simp; omega)))) | ((with_reducible refine Below.setCell ?_ ?_ _); rotate_left; (focus (first | omega | (dsimp only; omega) | (simp; done) | (simp; omega)))) | ((with_reducible refine Below.step ?_ (by assumption) ?_); rotate_left; (focus (first | omega | (dsimp only; omega) | (simp; done) | (simp; omega))))))
end Go.Proofs.YtdocdmpfokdjkaaDoor
