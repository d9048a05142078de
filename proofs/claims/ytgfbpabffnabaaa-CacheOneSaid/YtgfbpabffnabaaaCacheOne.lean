/-
  PROVED HERE: merelaw4.CacheOne returns true: added to nothing an entry is alone, and added again it changes nothing. CONDITIONS: none.
-/
import Derived.Test.YtgfbpabffnabaaaCBoth
namespace Go.Proofs.Ytgfbpabffnabaaa
open Go.RowKit
open Go.ChangeShapes Go.WideShapes Go.ChangeAt

theorem val_one {e : E} (h : chk e = 0) : chkC [e] = 0 := val_iff.2 ⟨by simp [Asc], fun x hx => by rw [List.mem_singleton.1 hx]; exact h⟩
theorem hasK_one (e : E) : hasK e.key [e] = true ∧ plc e.key [e] = 0 := by
  have hp : plc e.key [e] = 0 := by rw [plc, if_neg (by omega)]
  exact ⟨by unfold hasK; rw [hp]; simp, hp⟩
theorem addR_nil {e : E} (h : chk e = 0) : addR [] e = ([e], true, 0) := by
  have h1 : addC [] e = ([e], 0) := rfl
  rw [addR, if_pos (show chkC [] = 0 from rfl), if_pos h, h1, if_pos rfl, eqsE_len (by simp)]
  rfl
theorem addR_one {e : E} (h : chk e = 0) : addR [e] e = ([e], false, 0) := by
  obtain ⟨h1, h2⟩ := hasK_one e
  have h3 : addC [e] e = ([e], 0) := by
    rw [addC, if_pos h1, h2]
    show (if (joined e e).2 = 0 then (([e] : List E).set 0 (joined e e).1, (0 : Int)) else ([], (joined e e).2)) = _
    rw [joined_self, if_pos rfl]
    rfl
  rw [addR, if_pos (val_one h), if_pos h, h3, if_pos rfl, eqsE_refl]
  rfl
theorem getR_one {e : E} (h : chk e = 0) : getR [e] e.key = (e, 0) := by
  obtain ⟨h1, h2⟩ := hasK_one e
  rw [getR, if_pos (val_one h), if_pos (by have := chk_key h; exact keyB_true.2 this), if_pos h1, h2]
  rfl

set_option maxHeartbeats 4000000 in
set_option maxRecDepth 100000 in
theorem cacheOne_any (x0 x1 x2 : Int) (x3 : Bool) (x4 : ByteArray) (hx : x4.size ≤ maxLen) (w : World) :
    Calls Try.prog 5 #[.agg #[.int .i64 x0, .int .i64 x1, .int .i64 x2, .bool x3, .string x4]] w fun e w' => e = .returned (.bool true) ∧ Below w.heap.size w w' := by
  have HB := hid (Blk.new w 34 #[.int .i64 x0, .int .i64 x1, .int .i64 x2, .bool x3, .string x4])
  by_cases hk : chk ⟨x0, x1, x2, x3, x4⟩ = 0
  · have HA1 := hid (fun W => cadd_any ⟨none, 0, []⟩ x0 x1 x2 x3 x4 W hx (EsAt.empty _ _ _))
    have HA2 := hid (fun (r : SlV E) W (hr : EsAt W r) (hrx : r.xs = [⟨x0, x1, x2, x3, x4⟩]) => show Calls Try.prog 14 #[.slice r.A r.xs.length r.c, .agg #[.int .i64 x0, .int .i64 x1, .int .i64 x2, .bool x3, .string x4]] W (ARes W ([⟨x0, x1, x2, x3, x4⟩], false, 0)) from by
      have := cadd_any r x0 x1 x2 x3 x4 W hx hr
      rw [hrx, addR_one hk] at this
      rw [hrx]
      exact this)
    have HG := hid (fun (r : SlV E) W (hr : EsAt W r) (hrx : r.xs = [⟨x0, x1, x2, x3, x4⟩]) => show Calls Try.prog 13 #[.slice r.A r.xs.length r.c, .int .i64 x0] W (fun e w' => e = .returned (.tuple #[.agg #[.int .i64 x0, .int .i64 x1, .int .i64 x2, .bool x3, .string x4], .nilIface]) ∧ Below W.heap.size W w') from by
      have := get_any r x0 W hr.entries
      rw [hrx, show getR [⟨x0, x1, x2, x3, x4⟩] x0 = (⟨x0, x1, x2, x3, x4⟩, 0) from getR_one hk, errV_zero] at this
      rw [hrx]
      exact this)
    have Hadd := hid (addR_nil hk)
    have Hgood := hid (val_good (val_one hk))
    clear hk
    go_enter Try.func5, Try.ntmps5
    go_wp2_with fail
    refine (HA1.out _).mono ?_
    rw [Hadd.out]
    rintro e w1 ⟨v1, rfl, hOw1, hb1⟩
    simp only [errV_zero]
    have hX1 := HB.out.belowS hb1
    have Hb1 := hid ((show Below w.heap.size w _ by (repeat (first | with_reducible exact Below.refl _ _ | with_reducible assumption | (with_reducible refine Below.drew ?_) | (with_reducible refine Below.manyDrew ?_ _) | ((with_reducible refine Below.alloc ?_ ?_ _); rotate_left; (focus (first | omega | (dsimp only; omega) | (simp; done) | (simp; omega)))) | ((with_reducible refine Below.setCell ?_ ?_ _); rotate_left; (focus (first | omega | (dsimp only; omega) | (simp; done) | (simp; omega)))) | ((with_reducible refine Below.step ?_ (by assumption) ?_); rotate_left; (focus (first | omega | (dsimp only; omega) | (simp; done) | (simp; omega))))))).trans (hb1.mono (by simp)))
    have hz1 := Hb1.out.size
    obtain ⟨r, hv, hrx, hrA, _, _⟩ := EsAt.of_ow hOw1 Hgood.out
    have HrA := hid hrA
    have Hrx := hid hrx
    have HX1 := hid hX1
    have d0 : w1.cell? ⟨w.heap.size, 0, none⟩ = some (.int .i64 x0) := hX1.cell 0
    have d1 : w1.cell? ⟨w.heap.size, 1, none⟩ = some (.int .i64 x1) := hX1.cell 1
    have d2 : w1.cell? ⟨w.heap.size, 2, none⟩ = some (.int .i64 x2) := hX1.cell 2
    have d3 : w1.cell? ⟨w.heap.size, 3, none⟩ = some (.bool x3) := hX1.cell 3
    have d4 : w1.cell? ⟨w.heap.size, 4, none⟩ = some (.string x4) := hX1.cell 4
    rw [hv]
    clear hOw1 hb1 hX1 hrA hrx hv
    go_wp2_with fail
    refine (HA2.out r _ HrA.out Hrx.out).mono ?_
    rintro e w2 ⟨v2, rfl, hOw2, hb2⟩
    simp only [errV_zero]
    have hX2 := HX1.out.belowS hb2
    have Hb2 := hid (Below.step Hb1.out hb2 hz1)
    have hz2 := Hb2.out.size
    obtain ⟨q, hv, hqx, hqA, _, _⟩ := EsAt.of_ow hOw2 Hgood.out
    have HqA := hid hqA
    have Hqx := hid hqx
    have HX2 := hid hX2
    clear d0 d1 d2 d3 d4
    have d0 : w2.cell? ⟨w.heap.size, 0, none⟩ = some (.int .i64 x0) := hX2.cell 0
    rw [hv]
    clear hOw2 hb2 hX2 hqA hqx hv
    go_wp2_with fail
    refine (HG.out q _ HqA.out Hqx.out).mono ?_
    rintro e w3 ⟨rfl, hb3⟩
    have hX3 := HX2.out.belowS hb3
    have Hb3 := hid (Below.step Hb2.out hb3 hz2)
    have hz3 := Hb3.out.size
    have hlt3 : w.heap.size < w3.heap.size := hX3.lt
    clear d0
    have d0 : w3.cell? ⟨w.heap.size, 0, none⟩ = some (.int .i64 x0) := hX3.cell 0
    have d1 : w3.cell? ⟨w.heap.size, 1, none⟩ = some (.int .i64 x1) := hX3.cell 1
    have d2 : w3.cell? ⟨w.heap.size, 2, none⟩ = some (.int .i64 x2) := hX3.cell 2
    have d3 : w3.cell? ⟨w.heap.size, 3, none⟩ = some (.bool x3) := hX3.cell 3
    have d4 : w3.cell? ⟨w.heap.size, 4, none⟩ = some (.string x4) := hX3.cell 4
    have hl1 : ((r.xs.length : Int) == 1) = true := by rw [Hrx.out]; rfl
    have hl2 : ((q.xs.length : Int) == 1) = true := by rw [Hqx.out]; rfl
    clear hb3 hX3
    go_wp2_with fail
    go_ret
    exact ⟨rfl, Hb3.out.alloc hz3 _⟩
  · have HA1 := hid (fun W => cadd_any ⟨none, 0, []⟩ x0 x1 x2 x3 x4 W hx (EsAt.empty _ _ _))
    have Hadd := hid (show addR [] ⟨x0, x1, x2, x3, x4⟩ = ([], false, chk ⟨x0, x1, x2, x3, x4⟩) from by rw [addR, if_pos (show chkC [] = 0 from rfl), if_neg hk])
    have HK := hid (fun W => show Calls Try.prog 15 #[.agg #[.int .i64 x0, .int .i64 x1, .int .i64 x2, .bool x3, .string x4]] W (fun e w' => e = .returned (.iface 56 (.int .i64 (chk ⟨x0, x1, x2, x3, x4⟩))) ∧ Below W.heap.size W w') from by
      have := check_any x0 x1 x2 x3 x4 W hx
      rw [errV_ne hk] at this
      exact this)
    have Hen := hid (errV_ne hk)
    generalize chk ⟨x0, x1, x2, x3, x4⟩ = en at *
    clear hk
    go_enter Try.func5, Try.ntmps5
    go_wp2_with fail
    refine (HA1.out _).mono ?_
    rw [Hadd.out]
    rintro e w1 ⟨v1, rfl, _, hb1⟩
    simp only [Hen.out]
    have hX1 := HB.out.belowS hb1
    have Hb1 := hid ((show Below w.heap.size w _ by (repeat (first | with_reducible exact Below.refl _ _ | with_reducible assumption | (with_reducible refine Below.drew ?_) | (with_reducible refine Below.manyDrew ?_ _) | ((with_reducible refine Below.alloc ?_ ?_ _); rotate_left; (focus (first | omega | (dsimp only; omega) | (simp; done) | (simp; omega)))) | ((with_reducible refine Below.setCell ?_ ?_ _); rotate_left; (focus (first | omega | (dsimp only; omega) | (simp; done) | (simp; omega)))) | ((with_reducible refine Below.step ?_ (by assumption) ?_); rotate_left; (focus (first | omega | (dsimp only; omega) | (simp; done) | (simp; omega))))))).trans (hb1.mono (by simp)))
    have d0 : w1.cell? ⟨w.heap.size, 0, none⟩ = some (.int .i64 x0) := hX1.cell 0
    have d1 : w1.cell? ⟨w.heap.size, 1, none⟩ = some (.int .i64 x1) := hX1.cell 1
    have d2 : w1.cell? ⟨w.heap.size, 2, none⟩ = some (.int .i64 x2) := hX1.cell 2
    have d3 : w1.cell? ⟨w.heap.size, 3, none⟩ = some (.bool x3) := hX1.cell 3
    have d4 : w1.cell? ⟨w.heap.size, 4, none⟩ = some (.string x4) := hX1.cell 4
    clear hb1 hX1
    go_wp2_with fail
    refine (HK.out _).mono ?_
    rintro e w2 ⟨rfl, hb2⟩
    have Hb2 := hid (Below.step Hb1.out hb2 Hb1.out.size)
    clear hb2
    go_wp2_with fail
    go_ret
    exact ⟨rfl, Hb2.out⟩

set_option maxRecDepth 100000 in
theorem cacheOne_walk : LawWalk Try.prog 5 Try.f5 (fun _ => True) := by
  intro W base args H enc ds p hval hA _
  rw [Try.params5] at hA hval
  obtain ⟨v0, d0, rfl, rfl, h0⟩ := trodAll_one hA
  obtain ⟨e, rfl, he⟩ := arg_struct Try.underlying34 codecEntry (hval 0 34 v0 rfl rfl) h0
  obtain ⟨x0, x1, x2, x3, x4⟩ := e
  exact cacheOne_any x0 x1 x2 x3 x4 he.2.2.2 W

set_option maxRecDepth 100000 in
theorem cacheOne_lifted (os : Os) (started : os.Started) (H : Type) (enc : TypeId × Value → H) :
    ReturnsInHanded {} Try.checked os 5 .any (Rows.cacheOneSpec.pre6 enc Try.prog Try.f5 Rows.cacheOneRow.domain false) (Rows.cacheOneSpec.post enc Try.prog Try.f5 false true false false) :=
  law_lifted (C := Try.checked) Rows.cacheOneRow.domain Try.own started (by kernel_rfl) Try.func5 Try.laidOut (by kernel_rfl) rfl Try.underlying4 rfl (fun ds h => by match ds, h with | [_], _ => rfl)
    (ChangeSpec.witness6 (enc := enc) (C := Try.checked) false ⟨#[], #[.agg #[.int .i64 0, .int .i64 0, .int .i64 0, .bool false, .string ⟨#[]⟩]], []⟩ 8 (by kernel_rfl) (by kernel_rfl) (by kernel_rfl) (by kernel_rfl)) cacheOne_walk

theorem cacheOne_holds : Rows.CacheOneSaid :=
  OpenClaim.holds_of_wide 5 Try.f5 rfl rfl rfl rfl rfl rfl rfl ⟨rfl, rfl, rfl, rfl, rfl⟩ rfl rfl rfl rfl rfl (by kernel_rfl) Try.func5 (by kernel_rfl)
    (of_decide_eq_true (by kernel_rfl)) (by unfold Func.isWrapper; rw [if_neg (of_decide_eq_false (by kernel_rfl))]; exact ⟨rfl, rfl⟩)
    (fun os started H enc _ => cacheOne_lifted os started H enc)

end Go.Proofs.Ytgfbpabffnabaaa
