/-
  PROVED HERE: merelaw1.CacheTells returns true: what is wrong with any cache, any entry added, any key, and both of any two is as the document says. CONDITIONS: errors.errorType as the program's text lays it (tied by the card).
-/
import Derived.Test.YtgfbpabffnabaaaDoorRAll
import Derived.Test.YtgfbpabffnabaaaDoorCBoth
import Derived.Test.YtgfbpabffnabaaaDoorDoor
import Derived.Deep.DeepCutAuto
import Derived.Deep.CutBlock
namespace Go.Proofs.YtgfbpabffnabaaaDoor
open Go.RowKit
open Go.ChangeShapes Go.WideShapes Go.ChangeAt

def tE (l : List E) (x : E) : Int := if chkC l = 0 then chk x else chkC l
theorem addC_good {l : List E} {x : E} (hc : chkC l = 0) (hk : chk x = 0) : ∀ y ∈ (addC l x).1, y.good := by
  by_cases h : (addC l x).2 = 0
  · exact val_good ((addC_key hc hk).2 h).1
  · rw [addC_nil h]; simp
theorem addR_good (l : List E) (x : E) : ∀ y ∈ (addR l x).1, y.good := by
  unfold addR
  split
  · rename_i hc
    split
    · rename_i hk
      split
      · exact addC_good hc hk
      · simp
    · simp
  · simp
theorem addR_zero {l : List E} {x : E} (h : tE l x = 0) : chkC l = 0 ∧ chk x = 0 ∧ (addR l x).1 = (addC l x).1 ∧ (addR l x).2.2 = (addC l x).2 ∧ (addR l x).2.1 = (if (addC l x).2 = 0 then !eqsE (addC l x).1 l else false) := by
  unfold tE at h
  split at h
  · rename_i hc
    unfold addR
    rw [if_pos hc, if_pos h]
    refine ⟨hc, h, ?_⟩
    by_cases h0 : (addC l x).2 = 0
    · rw [if_pos h0, if_pos h0]
      exact ⟨rfl, h0.symm, rfl⟩
    · rw [if_neg h0, if_neg h0]
      exact ⟨(addC_nil h0).symm, rfl, rfl⟩
  · rename_i hc
    exact absurd h hc
theorem addR_not {l : List E} {x : E} (h : tE l x ≠ 0) : addR l x = ([], false, tE l x) := by
  unfold tE at h ⊢
  unfold addR
  split
  · rename_i hc
    rw [if_pos hc] at h
    rw [if_neg h]
  · rfl
theorem allC_nil : ∀ {m l : List E}, (allC l m).2 ≠ 0 → (allC l m).1 = []
  | [], l, h => absurd rfl h
  | e :: r, l, h => by
    rw [allC] at h ⊢
    split
    · rename_i h1
      rw [if_pos h1] at h
      exact allC_nil h
    · rfl
theorem bothR_nil {l m : List E} (h : (bothR l m).2 ≠ 0) : (bothR l m).1 = [] := by
  unfold bothR at h ⊢
  split
  · rename_i h1
    rw [if_pos h1] at h
    split
    · rename_i h2
      rw [if_pos h2] at h
      exact allC_nil h
    · rfl
  · rfl
theorem bothR_good (l m : List E) : ∀ y ∈ (bothR l m).1, y.good := by
  by_cases h : (bothR l m).2 = 0
  · obtain ⟨h1, h2, h3⟩ := bothR_zero h
    rw [h3] at h ⊢
    exact val_good ((allC_key h1 h2).2 h).1
  · rw [bothR_nil h]; simp
def bE (l m : List E) : Int := if chkC l = 0 then chkC m else chkC l
theorem bE_zero {l m : List E} (h : bE l m = 0) : chkC l = 0 ∧ chkC m = 0 ∧ bothR l m = allC l m := by
  unfold bE at h
  split at h
  · rename_i h1
    exact ⟨h1, h, bothR_val h1 h⟩
  · rename_i h1
    exact absurd h h1
theorem bE_not {l m : List E} (h : bE l m ≠ 0) : bothR l m = ([], bE l m) := by
  unfold bE at h ⊢
  unfold bothR
  split
  · rename_i h1
    rw [if_pos h1] at h
    rw [if_neg h]
  · rfl
/-- a row of entries that stands in a slot -/
def RowV (w : World) (v : Value) (l : List E) : Prop := ∃ r : SlV E, v = .slice r.A r.xs.length r.c ∧ r.xs = l ∧ EsAt w r
theorem RowV.nil (w : World) : RowV w (.slice none 0 0) [] := ⟨⟨none, 0, []⟩, rfl, rfl, EsAt.empty _ _ _⟩
theorem RowV.of_ow {w : World} {base : Nat} {T : TypeId} {v : Value} {l : List E} (h : Ow E.cells 5 base T w v l) (hg : ∀ x ∈ l, x.good) : RowV w v l := by
  obtain ⟨r, h1, h2, h3, _, _⟩ := EsAt.of_ow h hg
  exact ⟨r, h1, h2, h3⟩
theorem RowV.stays {w w' : World} {v : Value} {l : List E} (h : RowV w v l) (hb : Below w.heap.size w w') : RowV w' v l := by
  obtain ⟨r, h1, h2, h3⟩ := h
  exact ⟨r, h1, h2, h3.stays hb⟩

set_option maxHeartbeats 16000000 in
set_option maxRecDepth 100000 in
theorem cacheTells_any (s m : SlV E) (x0 x1 x2 : Int) (x3 : Bool) (x4 : ByteArray) (k : Int) (w : World) (hx : x4.size ≤ maxLen) (hs : EsAt w s) (hm : EsAt w m) (hgl : Gl w) :
    Calls Tryd.prog 6 #[.slice s.A s.xs.length s.c, .agg #[.int .i64 x0, .int .i64 x1, .int .i64 x2, .bool x3, .string x4], .int .i64 k, .slice m.A m.xs.length m.c] w fun e w' => e = .returned (.bool true) ∧ Below w.heap.size w w' := by
  have HS := hid (fun W (hW : Below w.heap.size w W) => hs.stays hW)
  have HM := hid (fun W (hW : Below w.heap.size w W) => hm.stays hW)
  have HG := hid (fun W (hW : Below w.heap.size w W) => hgl.belowS hW)
  have HX := hid (Blk.new w 26 #[.int .i64 x0, .int .i64 x1, .int .i64 x2, .bool x3, .string x4])
  clear hs hm hgl
  go_enter Tryd.func6, Tryd.ntmps6
  go_wp2_with fail
  refine (rcache_any s _ (HS.out _ (by (repeat (first | with_reducible exact Below.refl _ _ | with_reducible assumption | (with_reducible refine Below.drew ?_) | (with_reducible refine Below.manyDrew ?_ _) | ((with_reducible refine Below.alloc ?_ ?_ _); rotate_left; (focus (first | omega | (dsimp only; omega) | (simp; done) | (simp; omega)))) | ((with_reducible refine Below.setCell ?_ ?_ _); rotate_left; (focus (first | omega | (dsimp only; omega) | (simp; done) | (simp; omega)))) | ((with_reducible refine Below.step ?_ (by assumption) ?_); rotate_left; (focus (first | omega | (dsimp only; omega) | (simp; done) | (simp; omega)))))))).entries).mono ?_
  rintro e w1 ⟨rfl, hb1⟩
  have HX1 := hid (HX.out.belowS hb1)
  have Hb1 := hid (Below.step (show Below w.heap.size w (w.alloc _) by (repeat (first | with_reducible exact Below.refl _ _ | with_reducible assumption | (with_reducible refine Below.drew ?_) | (with_reducible refine Below.manyDrew ?_ _) | ((with_reducible refine Below.alloc ?_ ?_ _); rotate_left; (focus (first | omega | (dsimp only; omega) | (simp; done) | (simp; omega)))) | ((with_reducible refine Below.setCell ?_ ?_ _); rotate_left; (focus (first | omega | (dsimp only; omega) | (simp; done) | (simp; omega)))) | ((with_reducible refine Below.step ?_ (by assumption) ?_); rotate_left; (focus (first | omega | (dsimp only; omega) | (simp; done) | (simp; omega))))))) hb1 (by simp))
  have hz1 := Hb1.out.size
  clear hb1
  go_wp2_with fail
  refine (ccheck_any s w1 (HS.out _ Hb1.out).entries).mono ?_
  rintro e w2 ⟨rfl, hb2⟩
  have HX2 := hid (HX1.out.belowS hb2)
  have Hb2 := hid (Below.step Hb1.out hb2 hz1)
  have hz2 := Hb2.out.size
  clear hb2
  go_wp2_with fail
  refine (error_any _ _ w2 (HG.out _ Hb2.out)).mono ?_
  rw [beq_self_eq_true]
  rintro e w3 ⟨rfl, hb3⟩
  have hX3 := HX2.out.belowS hb3
  have HX3 := hid hX3
  have Hb3 := hid (Below.step Hb2.out hb3 hz2)
  have hz3 := Hb3.out.size
  clear hb3 hX3
  go_upto_if 33 with fail
  go_cut [11] (fun q wx => q = .int .i64 (tE s.xs ⟨x0, x1, x2, x3, x4⟩) ∧ Below w3.heap.size w3 wx)
  case first =>
    have hX3 := HX3.out
    have d0 : w3.cell? ⟨w.heap.size, 0, none⟩ = some (.int .i64 x0) := hX3.cell 0
    have d1 : w3.cell? ⟨w.heap.size, 1, none⟩ = some (.int .i64 x1) := hX3.cell 1
    have d2 : w3.cell? ⟨w.heap.size, 2, none⟩ = some (.int .i64 x2) := hX3.cell 2
    have d3 : w3.cell? ⟨w.heap.size, 3, none⟩ = some (.bool x3) := hX3.cell 3
    have d4 : w3.cell? ⟨w.heap.size, 4, none⟩ = some (.string x4) := hX3.cell 4
    clear hX3
    by_cases hc : chkC s.xs = 0
    · have hT : tE s.xs ⟨x0, x1, x2, x3, x4⟩ = chk ⟨x0, x1, x2, x3, x4⟩ := if_pos hc
      have HT := hid hT
      have hcb : (chkC s.xs == 0) = true := by rw [hc]; rfl
      clear hc hT
      go_wp2_with fail
      refine (rentry_any x0 x1 x2 x3 x4 w3 hx).mono ?_
      rintro e w4 ⟨rfl, hb4⟩
      go_wp2_with fail
      go_meet
      exact ⟨by rw [HT.out], hb4⟩
    · have hT : tE s.xs ⟨x0, x1, x2, x3, x4⟩ = chkC s.xs := if_neg hc
      have HT := hid hT
      have hcb : (chkC s.xs == 0) = false := by rw [beq_eq_false_iff_ne]; exact hc
      clear hc hT
      go_wp2_with fail
      go_meet
      exact ⟨by rw [HT.out], Below.refl _ _⟩
  case rest =>
  obtain ⟨rfl, hb4⟩ := hcut
  obtain ⟨w4, rfl⟩ : ∃ w4 : World, w4 = wc := ⟨_, rfl⟩
  have HX4 := hid (HX3.out.belowS hb4)
  have Hb4 := hid (Below.step Hb3.out hb4 hz3)
  have hz4 := Hb4.out.size
  clear hb4
  go_upto_if 37 with fail
  go_cut [12, 11] (fun v q wx => RowV wx v (addR s.xs ⟨x0, x1, x2, x3, x4⟩).1 ∧ q = .int .i64 (addR s.xs ⟨x0, x1, x2, x3, x4⟩).2.2 ∧ Below w4.heap.size w4 wx)
  case first =>
    have hX4 := HX4.out
    have d0 : w4.cell? ⟨w.heap.size, 0, none⟩ = some (.int .i64 x0) := hX4.cell 0
    have d1 : w4.cell? ⟨w.heap.size, 1, none⟩ = some (.int .i64 x1) := hX4.cell 1
    have d2 : w4.cell? ⟨w.heap.size, 2, none⟩ = some (.int .i64 x2) := hX4.cell 2
    have d3 : w4.cell? ⟨w.heap.size, 3, none⟩ = some (.bool x3) := hX4.cell 3
    have d4 : w4.cell? ⟨w.heap.size, 4, none⟩ = some (.string x4) := hX4.cell 4
    clear hX4
    by_cases ht : tE s.xs ⟨x0, x1, x2, x3, x4⟩ = 0
    · obtain ⟨hc, hk, h1, h2, -⟩ := addR_zero ht
      rw [ht]
      have H12 := hid (And.intro h1 h2)
      have HA := hid (radd_any s x0 x1 x2 x3 x4 w4 (HS.out _ Hb4.out) (val_facts hc).2.2)
      rw [radd_addC hc] at HA
      have Hgd := hid (addC_good hc hk)
      clear ht hc hk h1 h2
      go_wp2_with fail
      refine HA.out.mono ?_
      rintro e w5 ⟨v5, rfl, hOw, hb5⟩
      have HRv := hid (RowV.of_ow hOw Hgd.out)
      clear hOw
      go_wp2_with fail
      go_meet
      rw [H12.out.1, H12.out.2]
      exact ⟨HRv.out, rfl, hb5⟩
    · have HN := hid (addR_not ht)
      have hcb : (tE s.xs ⟨x0, x1, x2, x3, x4⟩ == 0) = false := by rw [beq_eq_false_iff_ne]; exact ht
      clear ht
      go_wp2_with fail
      go_meet
      rw [HN.out]
      exact ⟨RowV.nil _, rfl, Below.refl _ _⟩
  case rest =>
  obtain ⟨hRv5, rfl, hb5⟩ := hcut
  obtain ⟨w5, rfl⟩ : ∃ w5 : World, w5 = wc := ⟨_, rfl⟩
  have HX5 := hid (HX4.out.belowS hb5)
  have Hb5 := hid (Below.step Hb4.out hb5 hz4)
  have hz5 := Hb5.out.size
  have HRv5 := hid hRv5
  clear hb5 hRv5
  go_upto_if 45 with fail
  go_cut [13, 12] (fun q v wx => RowV wx v (addR s.xs ⟨x0, x1, x2, x3, x4⟩).1 ∧ q = .bool (addR s.xs ⟨x0, x1, x2, x3, x4⟩).2.1 ∧ Below w5.heap.size w5 wx)
  case first =>
    by_cases h0 : (addR s.xs ⟨x0, x1, x2, x3, x4⟩).2.2 = 0
    · have ht : tE s.xs ⟨x0, x1, x2, x3, x4⟩ = 0 := by
        by_cases ht : tE s.xs ⟨x0, x1, x2, x3, x4⟩ = 0
        · exact ht
        · rw [addR_not ht] at h0
          exact h0
      obtain ⟨-, -, h1, h2, h3⟩ := addR_zero ht
      rw [← h2, if_pos h0] at h3
      have hcb : ((addR s.xs ⟨x0, x1, x2, x3, x4⟩).2.2 == 0) = true := by rw [h0]; rfl
      obtain ⟨r, rfl, hrx, hrA⟩ := HRv5.out
      have H3 := hid (h3.trans (show (!eqsE _ s.xs) = !eqsE r.xs s.xs by rw [hrx, h1]))
      have HE := hid (ecache_any r s w5 hrA (HS.out _ Hb5.out))
      have HrA := hid hrA
      have Hrx := hid hrx
      clear ht h1 h2 h3 h0 hrA hrx
      go_wp2_with fail
      refine HE.out.mono ?_
      rintro e w6 ⟨rfl, hb6⟩
      go_wp2_with fail
      go_meet
      exact ⟨⟨r, rfl, Hrx.out, HrA.out.stays hb6⟩, by rw [H3.out], hb6⟩
    · have hN : (addR s.xs ⟨x0, x1, x2, x3, x4⟩).1 = [] ∧ (addR s.xs ⟨x0, x1, x2, x3, x4⟩).2.1 = false := by
        by_cases ht : tE s.xs ⟨x0, x1, x2, x3, x4⟩ = 0
        · obtain ⟨-, -, h1, h2, h3⟩ := addR_zero ht
          rw [h2] at h0
          rw [h1, h3, if_neg h0]
          exact ⟨addC_nil h0, rfl⟩
        · rw [addR_not ht]
          exact ⟨rfl, rfl⟩
      have HN := hid hN
      have hcb : ((addR s.xs ⟨x0, x1, x2, x3, x4⟩).2.2 == 0) = false := by rw [beq_eq_false_iff_ne]; exact h0
      clear h0 hN
      go_wp2_with fail
      go_meet
      rw [HN.out.1, HN.out.2]
      exact ⟨RowV.nil _, rfl, Below.refl _ _⟩
  case rest =>
  obtain ⟨hRv6, rfl, hb6⟩ := hcut
  obtain ⟨w6, rfl⟩ : ∃ w6 : World, w6 = wc := ⟨_, rfl⟩
  have hX6 := HX5.out.belowS hb6
  have Hb6 := hid (Below.step Hb5.out hb6 hz5)
  have hz6 := Hb6.out.size
  have d0 : w6.cell? ⟨w.heap.size, 0, none⟩ = some (.int .i64 x0) := hX6.cell 0
  have d1 : w6.cell? ⟨w.heap.size, 1, none⟩ = some (.int .i64 x1) := hX6.cell 1
  have d2 : w6.cell? ⟨w.heap.size, 2, none⟩ = some (.int .i64 x2) := hX6.cell 2
  have d3 : w6.cell? ⟨w.heap.size, 3, none⟩ = some (.bool x3) := hX6.cell 3
  have d4 : w6.cell? ⟨w.heap.size, 4, none⟩ = some (.string x4) := hX6.cell 4
  obtain ⟨r, rfl, hrx, hrA⟩ := hRv6
  have HrA := hid hrA
  have Hrx := hid hrx
  have HA := hid (cadd_any s x0 x1 x2 x3 x4 w6 hx (HS.out _ Hb6.out))
  have Hgd := hid (addR_good s.xs ⟨x0, x1, x2, x3, x4⟩)
  clear hb6 hX6 hrA hrx
  generalize addR s.xs ⟨x0, x1, x2, x3, x4⟩ = R at *
  obtain ⟨L, cb, en⟩ := R
  go_wp2_with fail
  refine HA.out.mono ?_
  rintro e w7 ⟨v7, rfl, hOw, hb7⟩
  obtain ⟨y, rfl, hyx, hyA⟩ := RowV.of_ow hOw Hgd.out
  have Hb7 := hid (Below.step Hb6.out hb7 hz6)
  have hz7 := Hb7.out.size
  have HyA := hid hyA
  have Hyx := hid hyx
  have HrA7 := hid (HrA.out.stays hb7)
  clear hOw hb7 hyA hyx d0 d1 d2 d3 d4
  go_wp2_with fail
  refine (error_any _ _ w7 (HG.out _ Hb7.out)).mono ?_
  rw [beq_self_eq_true]
  rintro e w8 ⟨rfl, hb8⟩
  have Hb8 := hid (Below.step Hb7.out hb8 hz7)
  have hz8 := Hb8.out.size
  have HE := hid (ecache_any y r w8 (HyA.out.stays hb8) (HrA7.out.stays hb8))
  rw [Hyx.out, Hrx.out, eqsE_refl] at HE
  have hcb : (cb == cb) = true := beq_self_eq_true cb
  clear hb8
  rw [Hyx.out, Hrx.out]
  go_wp2_with fail
  refine HE.out.mono ?_
  rintro e w9 ⟨rfl, hb9⟩
  have Hb9 := hid (Below.step Hb8.out hb9 hz8)
  have hz9 := Hb9.out.size
  clear hb9
  go_wp2_with fail
  refine (rkey_any k _).mono ?_
  rintro e w9' ⟨rfl, rfl⟩
  obtain ⟨wg, hwg⟩ : ∃ wg : World, wg = w9.alloc (.cells #[.int .i64 0, .int .i64 0, .int .i64 0, .bool false, .string ⟨#[]⟩] 26) := ⟨_, rfl⟩
  rw [← hwg]
  have HBg := hid (show Blk wg w9.heap.size 26 #[.int .i64 0, .int .i64 0, .int .i64 0, .bool false, .string ⟨#[]⟩] by rw [hwg]; exact Blk.new _ _ _)
  have Hbg := hid (show Below w.heap.size w wg by rw [hwg]; exact Hb9.out.alloc hz9 _)
  have hzg := Hbg.out.size
  clear hwg
  go_upto_region 18 with fail
  obtain ⟨bb, hbb⟩ : ∃ bb, bb = ((chkC s.xs == 0) && !keyB k) := ⟨_, rfl⟩
  have Hbb := hid hbb
  clear hbb
  go_cut [78] (fun q wx => q = .bool bb ∧ wx = wg)
  case first =>
    rcases hcb : (chkC s.xs == 0) with _ | _
    all_goals
      have hb2 := Hbb.out
      rw [hcb] at hb2
      have Hb2 := hid hb2
      clear hb2
      go_wp2_with fail
      all_goals
        go_meet
        exact ⟨by rw [Hb2.out]; simp, rfl⟩
  case rest =>
  obtain ⟨rfl, hwc⟩ := hcut
  obtain rfl : wg = wc := hwc.symm
  go_upto_if 78 with fail
  go_cut [11] (fun q wx => q = .int .i64 (getR s.xs k).2 ∧ Blk wx w9.heap.size 26 #[.int .i64 (getR s.xs k).1.key, .int .i64 (getR s.xs k).1.ver, .int .i64 (getR s.xs k).1.asof, .bool (getR s.xs k).1.gone, .string (getR s.xs k).1.text] ∧ Below w.heap.size w wx)
  case first =>
    by_cases hc : chkC s.xs = 0
    · have hcb : (chkC s.xs == 0) = true := by rw [hc]; rfl
      rcases (show keyB k = false ∨ keyB k = true by cases keyB k <;> simp) with hk | hk
      · have HR := hid (show getR s.xs k = (E.zero, 1) by rw [getR, if_pos hc, if_neg (by rw [hk]; decide)])
        have hq : bb = true := by rw [Hbb.out, hcb, hk]; rfl
        subst hq
        clear hc hk
        go_wp2_with fail
        go_meet
        rw [HR.out]
        exact ⟨rfl, HBg.out, Hbg.out⟩
      · have hR := getR_lk hc hk
        have hq : bb = false := by rw [Hbb.out, hcb, hk]; rfl
        subst hq
        clear hk
        have HC := hid (rget_any s k wg (HS.out _ Hbg.out).entries)
        unfold rget E.val at HC
        rcases hl : lk s.xs k with _ | ⟨g0, g1, g2, g3, g4⟩
        all_goals
          rw [hl] at HC hR
          try unfold E.zero at HC
          have HR := hid hR
          have Hc0 := hid hc
          clear hc hR hl
          go_wp2_with fail
          refine HC.out.mono ?_
          rintro e w10 ⟨rfl, hb10⟩
          have hB10 := HBg.out.belowS hb10
          have HB10 := hid hB10
          have Hb10 := hid (Below.step Hbg.out hb10 hzg)
          have hz10 := Hb10.out.size
          have hl10 := hB10.lt
          have f0 := hB10.frozen 0
          have f1 := hB10.frozen 1
          have f2 := hB10.frozen 2
          have f3 := hB10.frozen 3
          have f4 := hB10.frozen 4
          have c0 := hB10.cell 0
          have c1 := hB10.cell 1
          have c2 := hB10.cell 2
          have c3 := hB10.cell 3
          have c4 := hB10.cell 4
          clear hB10 hb10
          go_wp2_with fail
          go_meet
          rw [HR.out]
          refine ⟨by first | rfl | (rw [Hc0.out]), ?_, ?_⟩
          · first | with_reducible exact (HB10.out.put5 _ _ _ _ _).alloc _ | (unfold E.zero; with_reducible exact (HB10.out.put5 _ _ _ _ _).alloc _)
          · have hb10 := Hb10.out
            (repeat (first | with_reducible exact Below.refl _ _ | with_reducible assumption | (with_reducible refine Below.drew ?_) | (with_reducible refine Below.manyDrew ?_ _) | ((with_reducible refine Below.alloc ?_ ?_ _); rotate_left; (focus (first | omega | (dsimp only; omega) | (simp; done) | (simp; omega)))) | ((with_reducible refine Below.setCell ?_ ?_ _); rotate_left; (focus (first | omega | (dsimp only; omega) | (simp; done) | (simp; omega)))) | ((with_reducible refine Below.step ?_ (by assumption) ?_); rotate_left; (focus (first | omega | (dsimp only; omega) | (simp; done) | (simp; omega))))))
    · have hcb : (chkC s.xs == 0) = false := by rw [beq_eq_false_iff_ne]; exact hc
      have HR := hid (show getR s.xs k = (E.zero, chkC s.xs) by rw [getR, if_neg hc])
      have hq : bb = false := by rw [Hbb.out, hcb]; rfl
      subst hq
      clear hc
      go_wp2_with fail
      go_meet
      rw [HR.out]
      exact ⟨rfl, HBg.out, Hbg.out⟩
  case rest =>
  obtain ⟨rfl, hBg2, hbg2⟩ := hcut
  obtain ⟨w10, rfl⟩ : ∃ w10 : World, w10 = wc := ⟨_, rfl⟩
  have HB10 := hid hBg2
  have Hb10 := hid hbg2
  have hz10 := hbg2.size
  have HGt := hid (get_any s k w10 (HS.out _ Hb10.out).entries)
  clear hBg2 hbg2
  generalize getR s.xs k = G at *
  obtain ⟨⟨g0, g1, g2, g3, g4⟩, ge⟩ := G
  unfold E.val at HGt
  go_wp2_with fail
  refine HGt.out.mono ?_
  rintro e w11 ⟨rfl, hb11⟩
  have HB11 := hid (HB10.out.belowS hb11)
  have Hb11 := hid (Below.step Hb10.out hb11 hz10)
  have hz11 := Hb11.out.size
  clear hb11
  go_wp2_with fail
  have HZ11 := hid (Blk.new w11 26 #[.int .i64 g0, .int .i64 g1, .int .i64 g2, .bool g3, .string g4])
  have HB11' := hid (HB11.out.alloc (.cells #[.int .i64 g0, .int .i64 g1, .int .i64 g2, .bool g3, .string g4] 26))
  have Hb11' := hid (Hb11.out.alloc hz11 (.cells #[.int .i64 g0, .int .i64 g1, .int .i64 g2, .bool g3, .string g4] 26))
  refine (error_any _ _ _ (HG.out _ Hb11'.out)).mono ?_
  rw [beq_self_eq_true]
  rintro e w12 ⟨rfl, hb12⟩
  have hZ := HZ11.out.belowS hb12
  have hB := HB11'.out.belowS hb12
  have Hb12 := hid (Below.step Hb11'.out hb12 Hb11'.out.size)
  have hz12 := Hb12.out.size
  have z0 : w12.cell? ⟨w11.heap.size, 0, none⟩ = some (.int .i64 g0) := hZ.cell 0
  have z1 : w12.cell? ⟨w11.heap.size, 1, none⟩ = some (.int .i64 g1) := hZ.cell 1
  have z2 : w12.cell? ⟨w11.heap.size, 2, none⟩ = some (.int .i64 g2) := hZ.cell 2
  have z3 : w12.cell? ⟨w11.heap.size, 3, none⟩ = some (.bool g3) := hZ.cell 3
  have z4 : w12.cell? ⟨w11.heap.size, 4, none⟩ = some (.string g4) := hZ.cell 4
  have c0 : w12.cell? ⟨w9.heap.size, 0, none⟩ = some (.int .i64 g0) := hB.cell 0
  have c1 : w12.cell? ⟨w9.heap.size, 1, none⟩ = some (.int .i64 g1) := hB.cell 1
  have c2 : w12.cell? ⟨w9.heap.size, 2, none⟩ = some (.int .i64 g2) := hB.cell 2
  have c3 : w12.cell? ⟨w9.heap.size, 3, none⟩ = some (.bool g3) := hB.cell 3
  have c4 : w12.cell? ⟨w9.heap.size, 4, none⟩ = some (.string g4) := hB.cell 4
  clear hZ hB hb12
  go_upto_if 105 with fail
  clear z0 z1 z2 z3 z4 c0 c1 c2 c3 c4
  go_cut [9] (fun q wx => q = .int .i64 (bE s.xs m.xs) ∧ Below w12.heap.size w12 wx)
  case first =>
    by_cases hc : chkC s.xs = 0
    · have hcb : (chkC s.xs == 0) = true := by rw [hc]; rfl
      have HT := hid (show bE s.xs m.xs = chkC m.xs from if_pos hc)
      clear hc
      go_wp2_with fail
      refine (rcache_any m w12 (HM.out _ Hb12.out).entries).mono ?_
      rintro e w13 ⟨rfl, hb13⟩
      go_wp2_with fail
      go_meet
      exact ⟨by rw [HT.out], hb13⟩
    · have hcb : (chkC s.xs == 0) = false := by rw [beq_eq_false_iff_ne]; exact hc
      have HT := hid (show bE s.xs m.xs = chkC s.xs from if_neg hc)
      clear hc
      go_wp2_with fail
      go_meet
      exact ⟨by rw [HT.out], Below.refl _ _⟩
  case rest =>
  obtain ⟨rfl, hb13⟩ := hcut
  obtain ⟨w13, rfl⟩ : ∃ w13 : World, w13 = wc := ⟨_, rfl⟩
  have Hb13 := hid (Below.step Hb12.out hb13 hz12)
  have hz13 := Hb13.out.size
  clear hb13
  go_upto_if 109 with fail
  go_cut [12, 9] (fun v q wx => RowV wx v (bothR s.xs m.xs).1 ∧ q = .int .i64 (bothR s.xs m.xs).2 ∧ Below w13.heap.size w13 wx)
  case first =>
    by_cases hc : bE s.xs m.xs = 0
    · have hcb : (bE s.xs m.xs == 0) = true := by rw [hc]; rfl
      obtain ⟨h1, h2, h3⟩ := bE_zero hc
      have HA := hid (rall_any s m w13 (HS.out _ Hb13.out) (HM.out _ Hb13.out) h1 h2)
      have H3 := hid h3
      clear hc h1 h2 h3
      go_wp2_with fail
      refine HA.out.mono ?_
      rintro e w14 ⟨q, rfl, hqx, hqA, hb14⟩
      have Hqx := hid hqx
      have HqA := hid hqA
      clear hqx hqA
      go_wp2_with fail
      go_meet
      rw [H3.out]
      exact ⟨⟨q, rfl, Hqx.out, HqA.out⟩, rfl, hb14⟩
    · have hcb : (bE s.xs m.xs == 0) = false := by rw [beq_eq_false_iff_ne]; exact hc
      have HN := hid (bE_not hc)
      clear hc
      go_wp2_with fail
      go_meet
      rw [HN.out]
      exact ⟨RowV.nil _, rfl, Below.refl _ _⟩
  case rest =>
  obtain ⟨hRv, rfl, hb14⟩ := hcut
  obtain ⟨w14, rfl⟩ : ∃ w14 : World, w14 = wc := ⟨_, rfl⟩
  have Hb14 := hid (Below.step Hb13.out hb14 hz13)
  have hz14 := Hb14.out.size
  have HRv := hid hRv
  clear hb14 hRv
  go_upto_if 117 with fail
  go_cut [12] (fun v wx => RowV wx v (bothR s.xs m.xs).1 ∧ wx = w14)
  case first =>
    by_cases hc : (bothR s.xs m.xs).2 = 0
    · have hcb : ((bothR s.xs m.xs).2 == 0) = true := by rw [hc]; rfl
      clear hc
      go_wp2_with fail
      go_meet
      exact ⟨HRv.out, rfl⟩
    · have hcb : ((bothR s.xs m.xs).2 == 0) = false := by rw [beq_eq_false_iff_ne]; exact hc
      have HN := hid (bothR_nil hc)
      clear hc
      go_wp2_with fail
      go_meet
      rw [HN.out]
      exact ⟨RowV.nil _, rfl⟩
  case rest =>
  obtain ⟨hRv2, hwc⟩ := hcut
  obtain rfl : w14 = wc := hwc.symm
  obtain ⟨q, rfl, hqx, hqA⟩ := hRv2
  have HB := hid (both_any s m w14 (HS.out _ Hb14.out) (HM.out _ Hb14.out))
  have Hgd := hid (bothR_good s.xs m.xs)
  have Hqx := hid hqx
  have HqA := hid hqA
  clear hqx hqA HRv
  generalize bothR s.xs m.xs = R at *
  obtain ⟨L2, en2⟩ := R
  go_wp2_with fail
  refine HB.out.mono ?_
  rintro e w15 ⟨v15, rfl, hOw, hb15⟩
  obtain ⟨u, rfl, hux, huA⟩ := RowV.of_ow hOw Hgd.out
  have Hb15 := hid (Below.step Hb14.out hb15 hz14)
  have hz15 := Hb15.out.size
  have HuA := hid huA
  have Hux := hid hux
  have HqA15 := hid (HqA.out.stays hb15)
  clear hOw hb15 huA hux
  go_wp2_with fail
  refine (error_any _ _ w15 (HG.out _ Hb15.out)).mono ?_
  rw [beq_self_eq_true]
  rintro e w16 ⟨rfl, hb16⟩
  have Hb16 := hid (Below.step Hb15.out hb16 hz15)
  have hz16 := Hb16.out.size
  have HE := hid (ecache_any u q w16 (HuA.out.stays hb16) (HqA15.out.stays hb16))
  rw [Hux.out, Hqx.out, eqsE_refl] at HE
  clear hb16
  rw [Hux.out, Hqx.out]
  go_wp2_with fail
  refine HE.out.mono ?_
  rintro e w17 ⟨rfl, hb17⟩
  have Hb17 := hid (Below.step Hb16.out hb17 hz16)
  clear hb17
  go_wp2_with fail
  go_ret
  exact ⟨rfl, Hb17.out⟩
set_option maxRecDepth 100000 in
theorem cacheTells_walk : LawWalk Tryd.prog 6 Tryd.f6 Gl := by
  intro W base args H enc ds p hval hA hgl
  rw [Tryd.params6] at hA hval
  obtain ⟨v0, v1, v2, v3, d0, d1, d2, d3, p0, p1, p2, p3, rfl, rfl, rfl, h0, h1, h2, h3⟩ := trodAll_four hA
  obtain ⟨s, rfl, hs⟩ := arg_slice Tryd.underlying22 codecEntry (pos_of_eq Tryd.cellsEntry (by decide)) (hval 0 22 v0 rfl rfl) h0
  obtain ⟨⟨x0, x1, x2, x3, x4⟩, rfl, hg⟩ := arg_struct Tryd.underlying26 codecEntry (hval 1 26 v1 rfl rfl) h1
  obtain ⟨k, rfl, _⟩ := arg_int Tryd.underlying3 (hval 2 3 v2 rfl rfl) h2
  obtain ⟨m, rfl, hm⟩ := arg_slice Tryd.underlying22 codecEntry (pos_of_eq Tryd.cellsEntry (by decide)) (hval 3 22 v3 rfl rfl) h3
  exact cacheTells_any s m x0 x1 x2 x3 x4 k W hg.2.2.2 (entriesAt_of hs).es (entriesAt_of hm).es hgl

set_option maxRecDepth 100000 in
theorem cacheTells_lifted (os : Os) (started : os.Started) (H : Type) (enc : TypeId × Value → H) :
    ReturnsInHanded {} Tryd.checked os 6 .any (fun w args => (Rows.cacheTellsSpec.pre enc Tryd.checked.prog Tryd.f6 [] false w args ∧ laidMetH Tryd.prog theLaid w) ∧ sizedMet enc Tryd.checked.prog Tryd.f6 (OpenSpec.ofChange Rows.cacheTellsSpec) false w args) (Rows.cacheTellsSpec.post enc Tryd.checked.prog Tryd.f6 false true false false) :=
  laid_lifted (C := Tryd.checked) theLaid (fun _ h => handle_of_laid h) [] Tryd.own started (by kernel_rfl) Tryd.func6 Tryd.laidOut (by kernel_rfl) rfl Tryd.underlying4 rfl (fun ds h => by match ds, h with | [_, _, _, _], _ => rfl)
    (ChangeSpec.witness_at (enc := enc) (C := Tryd.checked) (os := os) (X := fun w _ => laidMetH Tryd.prog theLaid w) false (laidWorld os) #[.slice none 0 0, .agg #[.int .i64 0, .int .i64 0, .int .i64 0, .bool false, .string ⟨#[]⟩], .int .i64 0, .slice none 0 0] 8 rfl (by kernel_rfl) (by kernel_rfl) (by kernel_rfl) (by kernel_rfl) (by kernel_rfl) (laidWorld_met os _)) cacheTells_walk

theorem cacheTells_row : Rows.CacheTellsSaid :=
  OpenClaim.holds_of_wide 6 Tryd.f6 rfl rfl rfl rfl rfl rfl rfl ⟨rfl, rfl, rfl, rfl, rfl⟩ rfl rfl rfl rfl rfl (by kernel_rfl) Tryd.func6 (by kernel_rfl)
    (of_decide_eq_true (by kernel_rfl)) (by unfold Func.isWrapper; rw [if_neg (of_decide_eq_false (by kernel_rfl))]; exact ⟨rfl, rfl⟩)
    (fun os started H enc _ => cacheTells_lifted os started H enc)

theorem cacheTells_holds : Rows.CacheTellsCardSaid :=
  Claim7.holds_tied_plain_at .later [] [.handle] true _ true
    cacheTells_row (fun _ h => by cases h) (by kernel_rfl) (fun _ h => by cases h) cacheTells_row_tie rfl ⟨rfl, rfl⟩ (by kernel_rfl) rfl
    (fun f fn hf hfn => by
      obtain rfl : f = 6 := Option.some.inj ((show Tryd.prog.funcNamed "beaconmere/merelaw1.CacheTells" = some 6 by kernel_rfl).symm.trans hf) |>.symm
      obtain rfl : fn = Tryd.f6 := (Option.some.inj (Tryd.func6.symm.trans hfn)).symm
      refine ⟨by kernel_rfl, fun j t ht => ?_⟩
      have hall : Tryd.f6.params.toList.all (fun t => !Tryd.prog.wantsStandIn t) = true := by kernel_rfl
      have hm : t ∈ Tryd.f6.params.toList := by
        obtain ⟨hj, hje⟩ := Array.getElem?_eq_some_iff.1 ht
        rw [← hje]
        exact Array.mem_toList_iff.2 (Array.getElem_mem hj)
      have := List.all_eq_true.1 hall t hm
      exact (show Tryd.prog.wantsStandIn t = false by simpa using this))
    (by kernel_rfl)

end Go.Proofs.YtgfbpabffnabaaaDoor
