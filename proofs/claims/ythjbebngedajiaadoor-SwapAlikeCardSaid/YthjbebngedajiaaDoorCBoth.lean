/-
  CONTRACT of cache.Both, and what is got by it. CONDITIONS: none.
-/
import Derived.Test.YthjbebngedajiaaDoorCAll
import Derived.Test.YthjbebngedajiaaDoorCGet
namespace Go.Proofs.YthjbebngedajiaaDoor
open Go.RowKit
open Go.ChangeShapes Go.WideShapes Go.ChangeAt

theorem getR_lk {l : List E} {k : Int} (hl : chkC l = 0) (hk : keyB k = true) : getR l k = match lk l k with | some e => (e, 0) | none => (E.zero, 5) := by
  rw [getR, if_pos hl, if_pos hk, at_lk (val_iff.1 hl).1]
  split <;> rfl

set_option maxHeartbeats 4000000 in
set_option maxRecDepth 100000 in
theorem both_any (s m : SlV E) (w : World) (hs : EsAt w s) (hm : EsAt w m) :
    Calls Tryd.prog 45 #[.slice s.A s.xs.length s.c, .slice m.A m.xs.length m.c] w (CRes w (bothR s.xs m.xs).1 (bothR s.xs m.xs).2) := by
  have HC1 := hid (fun W (hW : Below w.heap.size w W) => ccheck_any s W (hs.stays hW).entries)
  have HC2 := hid (fun W (hW : Below w.heap.size w W) => ccheck_any m W (hm.stays hW).entries)
  have HAll := hid (fun W (hW : Below w.heap.size w W) (h1 : chkC s.xs = 0) (h2 : chkC m.xs = 0) => call_any s m W (hs.stays hW) (hm.stays hW) h1 h2)
  have hB0 : Blk (w.alloc (.cells #[.slice s.A s.xs.length s.c, .slice m.A m.xs.length m.c] 22)) w.heap.size 22 #[.slice s.A s.xs.length s.c, .slice m.A m.xs.length m.c] := Blk.new _ _ _
  generalize hR : bothR s.xs m.xs = R
  have HR := hid hR
  clear hR hs hm
  go_enter Tryd.func45, Tryd.ntmps45
  go_wp2_with fail
  obtain ⟨w1, hw1⟩ : ∃ w1 : World, w1 = w.alloc (.cells #[.slice s.A s.xs.length s.c, .slice m.A m.xs.length m.c] 22) := ⟨_, rfl⟩
  rw [← hw1] at hB0 ⊢
  have Hb1 := hid (show Below w.heap.size w w1 by rw [hw1]; (repeat (first | with_reducible exact Below.refl _ _ | with_reducible assumption | (with_reducible refine Below.drew ?_) | (with_reducible refine Below.manyDrew ?_ _) | ((with_reducible refine Below.alloc ?_ ?_ _); rotate_left; (focus (first | omega | (dsimp only; omega) | (simp; done) | (simp; omega)))) | ((with_reducible refine Below.setCell ?_ ?_ _); rotate_left; (focus (first | omega | (dsimp only; omega) | (simp; done) | (simp; omega)))) | ((with_reducible refine Below.step ?_ (by assumption) ?_); rotate_left; (focus (first | omega | (dsimp only; omega) | (simp; done) | (simp; omega)))))))
  have HB0 := hid hB0
  have hzb1 := Hb1.out.size
  clear hw1 hB0
  go_loopw [13] (fun i wr => ∃ k : Nat, k ≤ 2 ∧ i = .int .i64 k ∧ (1 ≤ k → chkC s.xs = 0) ∧ (2 ≤ k → chkC m.xs = 0) ∧ Below w1.heap.size w1 wr) (fun i _ => 2 - (intOf i).toNat)
  case atStart => exact ⟨0, by omega, rfl, (fun h => by omega), (fun h => by omega), Below.refl _ _⟩
  case round =>
    obtain ⟨k, hk, rfl, h1, h2, hb⟩ := hrel
    have hBr := HB0.out.belowS hb
    have c0 : wr.cell? ⟨w.heap.size, 0, none⟩ = some (.slice s.A s.xs.length s.c) := hBr.cell 0
    have c1 : wr.cell? ⟨w.heap.size, 1, none⟩ = some (.slice m.A m.xs.length m.c) := hBr.cell 1
    have H1 := hid h1
    have H2 := hid h2
    have Hbr := hid (Below.step Hb1.out hb hzb1)
    have Hb := hid hb
    have hzr := hb.size
    clear hBr h1 h2 hb
    rcases (show k = 0 ∨ k = 1 ∨ k = 2 by omega) with rfl | rfl | rfl
    · by_cases hc : chkC s.xs = 0
      · have HC := hid (HC1.out wr Hbr.out)
        rw [hc, errV_zero] at HC
        have Hc := hid hc
        clear hc
        go_wp2_with fail
        refine HC.out.mono ?_
        rintro e w2 ⟨rfl, hb2⟩
        have Hb2 := hid (Below.step Hb.out hb2 (by omega))
        clear hb2
        go_wp2_with fail
        go_roundw
        case rel => exact ⟨1, by omega, by go_num, fun _ => Hc.out, (fun h => by omega), Hb2.out⟩
        case measure => simp [intOf]
      · have HC := hid (HC1.out wr Hbr.out)
        rw [errV_ne hc] at HC
        have HRe := hid (show R = ([], chkC s.xs) from by rw [← HR.out, bothR, if_neg hc])
        have Hen := hid (errV_ne hc)
        generalize chkC s.xs = en at *
        clear hc
        go_wp2_with fail
        refine HC.out.mono ?_
        rintro e w2 ⟨rfl, hb2⟩
        have Hb2 := hid (Below.step Hbr.out hb2 (by omega))
        clear hb2
        go_wp2_with fail
        refine bodyPost_ret (v := .tuple #[.slice none 0 0, .iface 87 (.int .i64 en)]) ?_ rfl ?_
        · simp [results, Tryd.results45, go_sem]
        · rw [HRe.out, ← Hen.out]
          exact ⟨_, rfl, Ow.nil _ _ _ _ _, Hb2.out⟩
    · by_cases hc : chkC m.xs = 0
      · have HC := hid (HC2.out wr Hbr.out)
        rw [hc, errV_zero] at HC
        have Hc := hid hc
        clear hc
        go_wp2_with fail
        refine HC.out.mono ?_
        rintro e w2 ⟨rfl, hb2⟩
        have Hb2 := hid (Below.step Hb.out hb2 (by omega))
        clear hb2
        go_wp2_with fail
        go_roundw
        case rel => exact ⟨2, by omega, by go_num, fun _ => H1.out (by omega), fun _ => Hc.out, Hb2.out⟩
        case measure => simp [intOf]
      · have HC := hid (HC2.out wr Hbr.out)
        rw [errV_ne hc] at HC
        have HRe := hid (show R = ([], chkC m.xs) from by rw [← HR.out, bothR, if_pos (H1.out (by omega)), if_neg hc])
        have Hen := hid (errV_ne hc)
        generalize chkC m.xs = en at *
        clear hc
        go_wp2_with fail
        refine HC.out.mono ?_
        rintro e w2 ⟨rfl, hb2⟩
        have Hb2 := hid (Below.step Hbr.out hb2 (by omega))
        clear hb2
        go_wp2_with fail
        refine bodyPost_ret (v := .tuple #[.slice none 0 0, .iface 87 (.int .i64 en)]) ?_ rfl ?_
        · simp [results, Tryd.results45, go_sem]
        · rw [HRe.out, ← Hen.out]
          exact ⟨_, rfl, Ow.nil _ _ _ _ _, Hb2.out⟩
    · have HA := hid (HAll.out wr Hbr.out (H1.out (by omega)) (H2.out (by omega)))
      have HRe := hid (show R = allC s.xs m.xs from by rw [← HR.out, bothR_val (H1.out (by omega)) (H2.out (by omega))])
      go_wp2_with fail
      refine HA.out.mono ?_
      rw [← HRe.out]
      intro e w2 h2
      obtain ⟨v, rfl, h3⟩ := h2.under Hbr.out
      have H3 := hid h3
      clear h2 h3
      go_wp2_with fail
      go_ret2
      exact ⟨v, rfl, H3.out⟩
end Go.Proofs.YthjbebngedajiaaDoor
