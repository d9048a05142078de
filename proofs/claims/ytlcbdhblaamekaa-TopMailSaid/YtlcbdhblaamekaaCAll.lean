/-
  CONTRACTS of cache.Add, cache.All, cache.Both. CONDITIONS: none.
-/
import Derived.Test.YtlcbdhblaamekaaEKit
import Derived.Test.YtlcbdhblaamekaaCAddO
import Derived.Test.YtlcbdhblaamekaaCLaw
namespace Go.Proofs.Ytlcbdhblaamekaa
open Go.RowKit
open Go.ChangeShapes Go.WideShapes Go.ChangeAt

theorem chk_goodE {e : E} (h : chk e = 0) : e.good := by
  obtain ⟨h1, h2, h3, _, h5, _⟩ := chk_zero.1 h
  have := keyB_true.1 h1
  have := seqB_true.1 h2
  have := seqB_true.1 h3
  exact ⟨by omega, by omega, by omega, by unfold maxLen; omega⟩
theorem val_good {l : List E} (h : chkC l = 0) : ∀ e ∈ l, e.good := fun e he => chk_goodE ((val_iff.1 h).2 e he)
theorem val_facts {l : List E} (h : chkC l = 0) : SortedK l ∧ KeysIn l ∧ l.length ≤ 8 := by
  obtain ⟨h1, _, h3, h4⟩ := chkC_ok h
  exact ⟨h3, h4, h1⟩
/-- what Add tells, and leaves -/
def addR (l : List E) (e : E) : List E × Bool × Int :=
  if chkC l = 0 then (if chk e = 0 then (if (addC l e).2 = 0 then ((addC l e).1, !eqsE (addC l e).1 l, 0) else ([], false, (addC l e).2)) else ([], false, chk e)) else ([], false, chkC l)
def ARes (w : World) (r : List E × Bool × Int) (e : Ending) (w' : World) : Prop :=
  ∃ v, e = .returned (.tuple #[v, .bool r.2.1, errV r.2.2]) ∧ Ow E.cells 5 w.heap.size 36 w' v r.1 ∧ Below w.heap.size w w'

set_option maxHeartbeats 4000000 in
set_option maxRecDepth 100000 in
theorem cadd_any (s : SlV E) (x0 x1 x2 : Int) (x3 : Bool) (x4 : ByteArray) (w : World) (hx : x4.size ≤ maxLen) (hs : EsAt w s) :
    Calls Try.prog 14 #[.slice s.A s.xs.length s.c, .agg #[.int .i64 x0, .int .i64 x1, .int .i64 x2, .bool x3, .string x4]] w (ARes w (addR s.xs ⟨x0, x1, x2, x3, x4⟩)) := by
  have HC := hid (fun W (hW : Below w.heap.size w W) => ccheck_any s W (hs.stays hW).entries)
  have HK := hid (fun W => check_any x0 x1 x2 x3 x4 W hx)
  have HB := hid (Blk.new w 36 #[.int .i64 x0, .int .i64 x1, .int .i64 x2, .bool x3, .string x4])
  by_cases hc : chkC s.xs = 0
  · by_cases hk : chk ⟨x0, x1, x2, x3, x4⟩ = 0
    · rw [addR, if_pos hc, if_pos hk]
      have HS := hid (fun W (hW : Below w.heap.size w W) => added_any s x0 x1 x2 x3 x4 W (chk_goodE hk) (chk_key hk) (hs.stays hW) (val_facts hc).1 (val_facts hc).2.1 (val_facts hc).2.2)
      have HE := hid (fun (r : SlV E) W (hW : Below w.heap.size w W) (hr : EsAt W r) => eequal_any r s W hr (hs.stays hW))
      have Hval := hid (fun h => ((addC_key hc hk).2 h).1)
      have Hc := hid hc
      have Hk := hid hk
      clear hc hk hs
      generalize addC s.xs ⟨x0, x1, x2, x3, x4⟩ = R at *
      obtain ⟨l', en⟩ := R
      simp only at HS Hval ⊢
      by_cases h0 : en = 0
      · subst h0
        rw [if_pos rfl]
        have Hgood := hid (val_good (Hval.out rfl))
        go_enter Try.func14, Try.ntmps14
        go_wp2_with fail
        refine (HC.out _ (by (repeat (first | with_reducible exact Below.refl _ _ | with_reducible assumption | (with_reducible refine Below.drew ?_) | (with_reducible refine Below.manyDrew ?_ _) | ((with_reducible refine Below.alloc ?_ ?_ _); rotate_left; (focus (first | omega | (dsimp only; omega) | (simp; done) | (simp; omega)))) | ((with_reducible refine Below.setCell ?_ ?_ _); rotate_left; (focus (first | omega | (dsimp only; omega) | (simp; done) | (simp; omega)))) | ((with_reducible refine Below.step ?_ (by assumption) ?_); rotate_left; (focus (first | omega | (dsimp only; omega) | (simp; done) | (simp; omega)))))))).mono ?_
        rw [Hc.out, errV_zero]
        rintro e w1 ⟨rfl, hb1⟩
        have hX1 := HB.out.belowS hb1
        have d0 : w1.cell? ⟨w.heap.size, 0, none⟩ = some (.int .i64 x0) := hX1.cell 0
        have d1 : w1.cell? ⟨w.heap.size, 1, none⟩ = some (.int .i64 x1) := hX1.cell 1
        have d2 : w1.cell? ⟨w.heap.size, 2, none⟩ = some (.int .i64 x2) := hX1.cell 2
        have d3 : w1.cell? ⟨w.heap.size, 3, none⟩ = some (.bool x3) := hX1.cell 3
        have d4 : w1.cell? ⟨w.heap.size, 4, none⟩ = some (.string x4) := hX1.cell 4
        have HX1 := hid hX1
        have hb1' : Below w.heap.size w w1 := (show Below w.heap.size w _ by (repeat (first | with_reducible exact Below.refl _ _ | with_reducible assumption | (with_reducible refine Below.drew ?_) | (with_reducible refine Below.manyDrew ?_ _) | ((with_reducible refine Below.alloc ?_ ?_ _); rotate_left; (focus (first | omega | (dsimp only; omega) | (simp; done) | (simp; omega)))) | ((with_reducible refine Below.setCell ?_ ?_ _); rotate_left; (focus (first | omega | (dsimp only; omega) | (simp; done) | (simp; omega)))) | ((with_reducible refine Below.step ?_ (by assumption) ?_); rotate_left; (focus (first | omega | (dsimp only; omega) | (simp; done) | (simp; omega))))))).trans (hb1.mono (by simp))
        have Hb1 := hid hb1'
        have hz1 := hb1'.size
        clear hX1 hb1 hb1'
        go_wp2_with fail
        refine (HK.out _).mono ?_
        rw [Hk.out, errV_zero]
        rintro e w2 ⟨rfl, hb2⟩
        have hX2 := HX1.out.belowS hb2
        have Hb2 := hid (Below.step Hb1.out hb2 hz1)
        have hz2 := Hb2.out.size
        clear d0 d1 d2 d3 d4
        have d0 : w2.cell? ⟨w.heap.size, 0, none⟩ = some (.int .i64 x0) := hX2.cell 0
        have d1 : w2.cell? ⟨w.heap.size, 1, none⟩ = some (.int .i64 x1) := hX2.cell 1
        have d2 : w2.cell? ⟨w.heap.size, 2, none⟩ = some (.int .i64 x2) := hX2.cell 2
        have d3 : w2.cell? ⟨w.heap.size, 3, none⟩ = some (.bool x3) := hX2.cell 3
        have d4 : w2.cell? ⟨w.heap.size, 4, none⟩ = some (.string x4) := hX2.cell 4
        clear hX2 hb2
        go_wp2_with fail
        refine (HS.out _ Hb2.out).mono ?_
        rintro e w3 ⟨v, rfl, hOw, hb3⟩
        simp only [errV_zero]
        obtain ⟨r, rfl, hrx, hrA, _, _⟩ := EsAt.of_ow hOw Hgood.out
        have Hb3 := hid (Below.step Hb2.out hb3 hz2)
        have HOw := hid (hOw.mono (base' := w.heap.size) hz2)
        have HrA := hid hrA
        have Hrx := hid hrx
        clear hOw hb3 hrA hrx d0 d1 d2 d3 d4
        go_wp2_with fail
        refine (HE.out r w3 Hb3.out HrA.out).mono ?_
        rw [Hrx.out]
        rintro e w4 ⟨rfl, hb4⟩
        have Hb4 := hid (Below.step Hb3.out hb4 Hb3.out.size)
        have HOw4 := hid (HOw.out.belowS hb4)
        clear hb4
        go_wp2_with fail
        go_ret3
        rw [Hrx.out] at HOw4
        exact ⟨_, rfl, HOw4.out, Hb4.out⟩
      · rw [if_neg h0]
        have Hen := hid (errV_ne h0)
        clear h0
        go_enter Try.func14, Try.ntmps14
        go_wp2_with fail
        refine (HC.out _ (by (repeat (first | with_reducible exact Below.refl _ _ | with_reducible assumption | (with_reducible refine Below.drew ?_) | (with_reducible refine Below.manyDrew ?_ _) | ((with_reducible refine Below.alloc ?_ ?_ _); rotate_left; (focus (first | omega | (dsimp only; omega) | (simp; done) | (simp; omega)))) | ((with_reducible refine Below.setCell ?_ ?_ _); rotate_left; (focus (first | omega | (dsimp only; omega) | (simp; done) | (simp; omega)))) | ((with_reducible refine Below.step ?_ (by assumption) ?_); rotate_left; (focus (first | omega | (dsimp only; omega) | (simp; done) | (simp; omega)))))))).mono ?_
        rw [Hc.out, errV_zero]
        rintro e w1 ⟨rfl, hb1⟩
        have hX1 := HB.out.belowS hb1
        have d0 : w1.cell? ⟨w.heap.size, 0, none⟩ = some (.int .i64 x0) := hX1.cell 0
        have d1 : w1.cell? ⟨w.heap.size, 1, none⟩ = some (.int .i64 x1) := hX1.cell 1
        have d2 : w1.cell? ⟨w.heap.size, 2, none⟩ = some (.int .i64 x2) := hX1.cell 2
        have d3 : w1.cell? ⟨w.heap.size, 3, none⟩ = some (.bool x3) := hX1.cell 3
        have d4 : w1.cell? ⟨w.heap.size, 4, none⟩ = some (.string x4) := hX1.cell 4
        have HX1 := hid hX1
        have hb1' : Below w.heap.size w w1 := (show Below w.heap.size w _ by (repeat (first | with_reducible exact Below.refl _ _ | with_reducible assumption | (with_reducible refine Below.drew ?_) | (with_reducible refine Below.manyDrew ?_ _) | ((with_reducible refine Below.alloc ?_ ?_ _); rotate_left; (focus (first | omega | (dsimp only; omega) | (simp; done) | (simp; omega)))) | ((with_reducible refine Below.setCell ?_ ?_ _); rotate_left; (focus (first | omega | (dsimp only; omega) | (simp; done) | (simp; omega)))) | ((with_reducible refine Below.step ?_ (by assumption) ?_); rotate_left; (focus (first | omega | (dsimp only; omega) | (simp; done) | (simp; omega))))))).trans (hb1.mono (by simp))
        have Hb1 := hid hb1'
        have hz1 := hb1'.size
        clear hX1 hb1 hb1'
        go_wp2_with fail
        refine (HK.out _).mono ?_
        rw [Hk.out, errV_zero]
        rintro e w2 ⟨rfl, hb2⟩
        have hX2 := HX1.out.belowS hb2
        have Hb2 := hid (Below.step Hb1.out hb2 hz1)
        have hz2 := Hb2.out.size
        clear d0 d1 d2 d3 d4
        have d0 : w2.cell? ⟨w.heap.size, 0, none⟩ = some (.int .i64 x0) := hX2.cell 0
        have d1 : w2.cell? ⟨w.heap.size, 1, none⟩ = some (.int .i64 x1) := hX2.cell 1
        have d2 : w2.cell? ⟨w.heap.size, 2, none⟩ = some (.int .i64 x2) := hX2.cell 2
        have d3 : w2.cell? ⟨w.heap.size, 3, none⟩ = some (.bool x3) := hX2.cell 3
        have d4 : w2.cell? ⟨w.heap.size, 4, none⟩ = some (.string x4) := hX2.cell 4
        clear hX2 hb2
        go_wp2_with fail
        refine (HS.out _ Hb2.out).mono ?_
        rintro e w3 ⟨v, rfl, _, hb3⟩
        rw [Hen.out]
        have Hb3 := hid (Below.step Hb2.out hb3 hz2)
        clear hb3 d0 d1 d2 d3 d4
        go_wp2_with fail
        refine bodyPost_ret (v := .tuple #[.slice none 0 0, .bool false, .iface 53 (.int .i64 en)]) ?_ rfl ?_
        · simp [results, Try.results14, go_sem]
        · rw [← Hen.out]
          exact ⟨_, rfl, Ow.nil _ _ _ _ _, Hb3.out⟩
    · rw [addR, if_pos hc, if_neg hk]
      have Hen := hid (errV_ne hk)
      have Hc := hid hc
      generalize chk ⟨x0, x1, x2, x3, x4⟩ = en at *
      clear hc hk hs
      go_enter Try.func14, Try.ntmps14
      go_wp2_with fail
      refine (HC.out _ (by (repeat (first | with_reducible exact Below.refl _ _ | with_reducible assumption | (with_reducible refine Below.drew ?_) | (with_reducible refine Below.manyDrew ?_ _) | ((with_reducible refine Below.alloc ?_ ?_ _); rotate_left; (focus (first | omega | (dsimp only; omega) | (simp; done) | (simp; omega)))) | ((with_reducible refine Below.setCell ?_ ?_ _); rotate_left; (focus (first | omega | (dsimp only; omega) | (simp; done) | (simp; omega)))) | ((with_reducible refine Below.step ?_ (by assumption) ?_); rotate_left; (focus (first | omega | (dsimp only; omega) | (simp; done) | (simp; omega)))))))).mono ?_
      rw [Hc.out, errV_zero]
      rintro e w1 ⟨rfl, hb1⟩
      have hX1 := HB.out.belowS hb1
      have d0 : w1.cell? ⟨w.heap.size, 0, none⟩ = some (.int .i64 x0) := hX1.cell 0
      have d1 : w1.cell? ⟨w.heap.size, 1, none⟩ = some (.int .i64 x1) := hX1.cell 1
      have d2 : w1.cell? ⟨w.heap.size, 2, none⟩ = some (.int .i64 x2) := hX1.cell 2
      have d3 : w1.cell? ⟨w.heap.size, 3, none⟩ = some (.bool x3) := hX1.cell 3
      have d4 : w1.cell? ⟨w.heap.size, 4, none⟩ = some (.string x4) := hX1.cell 4
      have HX1 := hid hX1
      have hb1' : Below w.heap.size w w1 := (show Below w.heap.size w _ by (repeat (first | with_reducible exact Below.refl _ _ | with_reducible assumption | (with_reducible refine Below.drew ?_) | (with_reducible refine Below.manyDrew ?_ _) | ((with_reducible refine Below.alloc ?_ ?_ _); rotate_left; (focus (first | omega | (dsimp only; omega) | (simp; done) | (simp; omega)))) | ((with_reducible refine Below.setCell ?_ ?_ _); rotate_left; (focus (first | omega | (dsimp only; omega) | (simp; done) | (simp; omega)))) | ((with_reducible refine Below.step ?_ (by assumption) ?_); rotate_left; (focus (first | omega | (dsimp only; omega) | (simp; done) | (simp; omega))))))).trans (hb1.mono (by simp))
      have Hb1 := hid hb1'
      have hz1 := hb1'.size
      clear hX1 hb1 hb1'
      go_wp2_with fail
      refine (HK.out _).mono ?_
      rw [Hen.out]
      rintro e w2 ⟨rfl, hb2⟩
      have Hb2 := hid (Below.step Hb1.out hb2 hz1)
      clear hb2 d0 d1 d2 d3 d4
      go_wp2_with fail
      refine bodyPost_ret (v := .tuple #[.slice none 0 0, .bool false, .iface 53 (.int .i64 en)]) ?_ rfl ?_
      · simp [results, Try.results14, go_sem]
      · rw [← Hen.out]
        exact ⟨_, rfl, Ow.nil _ _ _ _ _, Hb2.out⟩
  · rw [addR, if_neg hc]
    have Hen := hid (errV_ne hc)
    generalize chkC s.xs = en at *
    clear hc hs
    go_enter Try.func14, Try.ntmps14
    go_wp2_with fail
    refine (HC.out _ (by (repeat (first | with_reducible exact Below.refl _ _ | with_reducible assumption | (with_reducible refine Below.drew ?_) | (with_reducible refine Below.manyDrew ?_ _) | ((with_reducible refine Below.alloc ?_ ?_ _); rotate_left; (focus (first | omega | (dsimp only; omega) | (simp; done) | (simp; omega)))) | ((with_reducible refine Below.setCell ?_ ?_ _); rotate_left; (focus (first | omega | (dsimp only; omega) | (simp; done) | (simp; omega)))) | ((with_reducible refine Below.step ?_ (by assumption) ?_); rotate_left; (focus (first | omega | (dsimp only; omega) | (simp; done) | (simp; omega)))))))).mono ?_
    rw [Hen.out]
    rintro e w1 ⟨rfl, hb1⟩
    have Hb1 := hid ((show Below w.heap.size w _ by (repeat (first | with_reducible exact Below.refl _ _ | with_reducible assumption | (with_reducible refine Below.drew ?_) | (with_reducible refine Below.manyDrew ?_ _) | ((with_reducible refine Below.alloc ?_ ?_ _); rotate_left; (focus (first | omega | (dsimp only; omega) | (simp; done) | (simp; omega)))) | ((with_reducible refine Below.setCell ?_ ?_ _); rotate_left; (focus (first | omega | (dsimp only; omega) | (simp; done) | (simp; omega)))) | ((with_reducible refine Below.step ?_ (by assumption) ?_); rotate_left; (focus (first | omega | (dsimp only; omega) | (simp; done) | (simp; omega))))))).trans (hb1.mono (by simp)))
    clear hb1
    go_wp2_with fail
    refine bodyPost_ret (v := .tuple #[.slice none 0 0, .bool false, .iface 53 (.int .i64 en)]) ?_ rfl ?_
    · simp [results, Try.results14, go_sem]
    · rw [← Hen.out]
      exact ⟨_, rfl, Ow.nil _ _ _ _ _, Hb1.out⟩

/-- what a call that hands out both of two does -/
theorem CRes.under {W w : World} {l : List E} {en : Int} {e : Ending} {w' : World} (h : CRes w l en e w') (hb : Below W.heap.size W w) : CRes W l en e w' := by
  obtain ⟨v, h1, h2, h3⟩ := h
  exact ⟨v, h1, h2.mono hb.size, Below.step hb h3 hb.size⟩
end Go.Proofs.Ytlcbdhblaamekaa
