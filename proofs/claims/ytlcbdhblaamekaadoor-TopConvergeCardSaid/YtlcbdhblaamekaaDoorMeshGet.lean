/-
  CONTRACT of mesh.Get. CONDITIONS: none.
  CONTRACT of mesh.New. CONDITIONS: none.
-/
import Derived.Test.YtlcbdhblaamekaaDoorMesh
import Derived.Laws.MakeOwn
namespace Go.Proofs.YtlcbdhblaamekaaDoor
open Go.RowKit
open Go.ChangeShapes Go.WideShapes Go.ChangeAt

section
variable {base m s g : Nat} {vs : List Value} {D : List E} {q : List (SlV E)}
/-- what may be asked -/
def askB (len dl : Nat) (node key fl : Int) : Bool := inM len node && keyB key && decide (0 ≤ fl) && decide (fl ≤ (dl : Int))
theorem askB_true {len dl : Nat} {node key fl : Int} : askB len dl node key fl = true ↔ inM len node = true ∧ keyB key = true ∧ 0 ≤ fl ∧ fl ≤ (dl : Int) := by simp [askB, and_assoc]

set_option maxHeartbeats 4000000 in
theorem mget_bad (node key fl : Int) (w : World) (h : MeshO base w m s g vs D q) (ha : askB q.length D.length node key fl = false) :
    Calls Tryd.prog 15 #[.pointer (some ⟨m, 0, none⟩), .int .i64 node, .int .i64 key, .int .i64 fl] w fun e w' => e = .returned (.tuple #[.agg #[.int .i64 0, .int .i64 0, .int .i64 0, .bool false, .string ⟨#[]⟩], .bool false, .iface 59 (.int .i64 1)]) ∧ Below w.heap.size w w' := by
  have HN := hid (fun W (hW : Below w.heap.size w W) => mnode_any node W (h.belowS hW))
  have HS := hid (fun W (hW : Below w.heap.size w W) => sseq_any base s vs (lsOf D) D.length W (h.belowS hW).st)
  have hc0 := h.c0
  have hl := h.lt
  have hd0 : (D.length : Int) ≤ 1000 := by have := h.deeds.len; omega
  have HB0 := hid (Blk.new w 38 #[.int .i64 0, .int .i64 0, .int .i64 0, .bool false, .string ⟨#[]⟩])
  clear h
  rcases (show inM q.length node = false ∨ (inM q.length node = true ∧ keyB key = false) ∨ (inM q.length node = true ∧ keyB key = true ∧ fl < 0) ∨ (inM q.length node = true ∧ keyB key = true ∧ ¬ fl < 0 ∧ (D.length : Int) < fl) by
    rcases h1 : inM q.length node with _ | _
    · exact .inl rfl
    · rcases h2 : keyB key with _ | _
      · exact .inr (.inl ⟨rfl, rfl⟩)
      · by_cases h3 : fl < 0
        · exact .inr (.inr (.inl ⟨rfl, rfl, h3⟩))
        · refine .inr (.inr (.inr ⟨rfl, rfl, h3, ?_⟩))
          by_cases h4 : fl ≤ (D.length : Int)
          · rw [askB_true.2 ⟨h1, h2, by omega, h4⟩] at ha; cases ha
          · omega) with h1 | ⟨h1, h2⟩ | ⟨h1, h2, h3⟩ | ⟨h1, h2, h3, h4⟩
  all_goals
    rw [h1] at HN
    clear ha h1
    try (have H2 := hid h2; clear h2)
    go_enter Tryd.func15, Tryd.ntmps15
    go_wp2_with (first
      | (go_at_call 25; refine (HN.out _ (by (repeat (first | with_reducible exact Below.refl _ _ | with_reducible assumption | (with_reducible refine Below.drew ?_) | (with_reducible refine Below.manyDrew ?_ _) | ((with_reducible refine Below.alloc ?_ ?_ _); rotate_left; (focus (first | omega | (dsimp only; omega) | (simp; done) | (simp; omega)))) | ((with_reducible refine Below.setCell ?_ ?_ _); rotate_left; (focus (first | omega | (dsimp only; omega) | (simp; done) | (simp; omega)))) | ((with_reducible refine Below.step ?_ (by assumption) ?_); rotate_left; (focus (first | omega | (dsimp only; omega) | (simp; done) | (simp; omega)))))))).mono ?_; rintro e wn ⟨rfl, rfl⟩)
      | (go_at_call 33; refine (key_any _ _).mono ?_; rintro e wn ⟨rfl, rfl⟩; rw [H2.out])
      | (go_at_call 36; refine (HS.out _ (by (repeat (first | with_reducible exact Below.refl _ _ | with_reducible assumption | (with_reducible refine Below.drew ?_) | (with_reducible refine Below.manyDrew ?_ _) | ((with_reducible refine Below.alloc ?_ ?_ _); rotate_left; (focus (first | omega | (dsimp only; omega) | (simp; done) | (simp; omega)))) | ((with_reducible refine Below.setCell ?_ ?_ _); rotate_left; (focus (first | omega | (dsimp only; omega) | (simp; done) | (simp; omega)))) | ((with_reducible refine Below.step ?_ (by assumption) ?_); rotate_left; (focus (first | omega | (dsimp only; omega) | (simp; done) | (simp; omega)))))))).mono ?_; rintro e wn ⟨rfl, rfl⟩))
    refine bodyPost_ret (v := .tuple #[.agg #[.int .i64 0, .int .i64 0, .int .i64 0, .bool false, .string ⟨#[]⟩], .bool false, .iface 59 (.int .i64 1)]) ?_ rfl ⟨rfl, by (repeat (first | with_reducible exact Below.refl _ _ | with_reducible assumption | (with_reducible refine Below.drew ?_) | (with_reducible refine Below.manyDrew ?_ _) | ((with_reducible refine Below.alloc ?_ ?_ _); rotate_left; (focus (first | omega | (dsimp only; omega) | (simp; done) | (simp; omega)))) | ((with_reducible refine Below.setCell ?_ ?_ _); rotate_left; (focus (first | omega | (dsimp only; omega) | (simp; done) | (simp; omega)))) | ((with_reducible refine Below.step ?_ (by assumption) ?_); rotate_left; (focus (first | omega | (dsimp only; omega) | (simp; done) | (simp; omega))))))⟩
    exact results_boxT Tryd.results15 rfl HB0.out Tryd.underlying38 rfl (by kernel_rfl)

set_option maxHeartbeats 8000000 in
set_option maxRecDepth 100000 in
theorem mget_hit (n : Nat) (key fl : Int) (x : E) (w : World) (h : MeshO base w m s g vs D q) (hn : n < q.length) (hkey : keyB key = true) (hf0 : 0 ≤ fl) (hfl : fl ≤ (D.length : Int)) (hx : lk q[n].xs key = some x) (hxf : fl ≤ x.asof) :
    Calls Tryd.prog 15 #[.pointer (some ⟨m, 0, none⟩), .int .i64 n, .int .i64 key, .int .i64 fl] w fun e w' => e = .returned (.tuple #[x.val, .bool true, .nilIface]) ∧ Below w.heap.size w w' := by
  have HN := hid (fun W (hW : Below w.heap.size w W) => mnode_any n W (h.belowS hW))
  rw [show inM q.length (n : Int) = true from inM_true.2 ⟨by omega, by omega⟩] at HN
  have HS := hid (fun W (hW : Below w.heap.size w W) => sseq_any base s vs (lsOf D) D.length W (h.belowS hW).st)
  have HM := hid (fun W (hW : Below w.heap.size w W) => h.belowS hW)
  have hmem := List.getElem_mem hn
  have hcd := h.cac _ hmem
  obtain ⟨hn8, -, hS, hK⟩ := chkC_ok hcd.1
  have hown := h.own _ hmem
  have hat := h.at hn
  have hc0 := h.c0
  have hc1 := h.c1
  have hl := h.lt
  have hg := h.row.lt
  rw [at_lk (val_iff.1 hcd.1).1] at hx
  generalize q[n] = c at *
  have hhk : hasK key c.xs = true := by
    rcases hh : hasK key c.xs with _ | _
    · rw [hh, if_neg (by decide)] at hx; cases hx
    · rfl
  rw [if_pos hhk] at hx
  injection hx with hx
  have hp : plc key c.xs < c.xs.length := by
    unfold hasK at hhk
    simp at hhk
    exact hhk.1
  have HP := hid (fun W (hW : Below w.heap.size w W) => place_any key c W (hown.es.stays hW).entries hS hK (keyB_true.1 hkey) hn8)
  rw [hhk] at HP
  obtain ⟨cb, co, hcA, hcb, hcells⟩ := hown.es.row (by omega)
  have hE := hcells _ hp
  rw [hx] at hE
  have HE := hid (fun W (hW : Below w.heap.size w W) => hE.stays hW hcb)
  have hcl : c.xs.length ≤ 8 := hn8
  have Hkey := hid hkey
  obtain ⟨x0, x1, x2, x3, x4⟩ := x
  simp only at hxf
  generalize plc key c.xs = p at *
  have hd0 : (D.length : Int) ≤ 1000 := by have := h.deeds.len; omega
  have hq6 := h.six
  have hnq : (n : Int) < (q.length : Int) := by omega
  have hpl : (p : Int) < (c.xs.length : Int) := by omega
  have HAt := hid (fun W (hW : Below w.heap.size w W) => show W.cell? ⟨g, n, none⟩ = some (.slice (some ⟨cb, co, none⟩) c.xs.length c.c) from by rw [← hcA]; exact (hW.cell (p := ⟨g, n, none⟩) hg).trans hat)
  have HC1 := hid (fun W (hW : Below w.heap.size w W) => (HM.out W hW).c1)
  have HC0 := hid (fun W (hW : Below w.heap.size w W) => (HM.out W hW).c0)
  rw [hcA] at HP
  clear h hmem hcd hS hK hown hat hhk hx hE hcells hkey hc0 hc1 hcA
  go_enter Tryd.func15, Tryd.ntmps15
  go_upto_region 1 with fail
  obtain ⟨w1, hw1⟩ : ∃ W : World, W = w.alloc (.cells #[.int .i64 0, .int .i64 0, .int .i64 0, .bool false, .string ⟨#[]⟩] 38) := ⟨_, rfl⟩
  rw [← hw1]
  have HZ1 := hid (show Blk w1 w.heap.size 38 #[.int .i64 0, .int .i64 0, .int .i64 0, .bool false, .string ⟨#[]⟩] by rw [hw1]; exact Blk.new _ _ _)
  have Hb1 := hid (show Below w.heap.size w w1 by rw [hw1]; exact (Below.refl _ _).alloc (Nat.le_refl _) _)
  have hz1 := Hb1.out.size
  have hlz := HZ1.out.lt
  clear hw1
  go_cut [36] (fun t wx => t = .bool false ∧ wx = w1)
  case first =>
    have d0 := HC0.out w1 Hb1.out
    have hm1 : m < w1.heap.size := by omega
    have hnl : ¬ fl < 0 := by omega
    have hnl2 : ¬ (D.length : Int) < fl := by omega
    go_wp2_with (first
      | (go_at_call 25; refine (HN.out _ Hb1.out).mono ?_; rintro e wn ⟨rfl, rfl⟩)
      | (go_at_call 33; refine (key_any _ _).mono ?_; rintro e wn ⟨rfl, rfl⟩; rw [Hkey.out])
      | (go_at_call 36; refine (HS.out _ Hb1.out).mono ?_; rintro e wn ⟨rfl, rfl⟩))
    go_meet
    exact ⟨by first | rfl | (congr 1; simp; omega), rfl⟩
  case rest =>
  obtain ⟨rfl, hwc⟩ := hcut
  obtain rfl : w1 = wc := hwc.symm
  have d1 := HC1.out w1 Hb1.out
  have d2 := HAt.out w1 Hb1.out
  have hm1 : m < w1.heap.size := by omega
  have hg1 : g < w1.heap.size := by omega
  have HP1 := hid (HP.out w1 Hb1.out)
  clear HP HN HS
  go_wp2_with fail
  refine HP1.out.mono ?_
  rintro e w2 ⟨rfl, hb2⟩
  have Hb2 := hid (Below.step Hb1.out hb2 hz1)
  have hz2 := Hb2.out.size
  have HZ2 := hid (HZ1.out.belowS hb2)
  have hZ2 := HZ2.out
  have hl2 := hZ2.lt
  have d1 := HC1.out w2 Hb2.out
  have d2 := HAt.out w2 Hb2.out
  have hm2 : m < w2.heap.size := by omega
  have hg2 : g < w2.heap.size := by omega
  have hc2 : cb < w2.heap.size := by omega
  obtain ⟨k0, k1, k2, k3, k4⟩ := HE.out w2 Hb2.out
  simp only at k0 k1 k2 k3 k4
  have y0 : w2.cell? ⟨w.heap.size, 0, none⟩ = some (.int .i64 0) := hZ2.cell 0
  have y1 : w2.cell? ⟨w.heap.size, 1, none⟩ = some (.int .i64 0) := hZ2.cell 1
  have y2 : w2.cell? ⟨w.heap.size, 2, none⟩ = some (.int .i64 0) := hZ2.cell 2
  have y3 : w2.cell? ⟨w.heap.size, 3, none⟩ = some (.bool false) := hZ2.cell 3
  have y4 : w2.cell? ⟨w.heap.size, 4, none⟩ = some (.string ⟨#[]⟩) := hZ2.cell 4
  have f0 := hZ2.frozen 0
  have f1 := hZ2.frozen 1
  have f2 := hZ2.frozen 2
  have f3 := hZ2.frozen 3
  have f4 := hZ2.frozen 4
  clear hb2 HP1 hZ2 hm1 hg1
  go_wp2_with fail
  refine bodyPost_ret (v := .tuple #[.agg #[.int .i64 x0, .int .i64 x1, .int .i64 x2, .bool x3, .string x4], .bool true, .nilIface]) ?_ rfl ⟨rfl, by have := Hb2.out; (repeat (first | with_reducible exact Below.refl _ _ | with_reducible assumption | (with_reducible refine Below.drew ?_) | (with_reducible refine Below.manyDrew ?_ _) | ((with_reducible refine Below.alloc ?_ ?_ _); rotate_left; (focus (first | omega | (dsimp only; omega) | (simp; done) | (simp; omega)))) | ((with_reducible refine Below.setCell ?_ ?_ _); rotate_left; (focus (first | omega | (dsimp only; omega) | (simp; done) | (simp; omega)))) | ((with_reducible refine Below.step ?_ (by assumption) ?_); rotate_left; (focus (first | omega | (dsimp only; omega) | (simp; done) | (simp; omega))))))⟩
  exact results_boxT Tryd.results15 rfl (Blk.put5 HZ2.out _ _ _ _ _) Tryd.underlying38 rfl (by kernel_rfl)

/-- what Get leaves where the store is read -/
def MMiss (base m s g : Nat) (vs : List Value) (D : List E) (q : List (SlV E)) (k : Nat) (key : Int) (w : World) (e : Ending) (w' : World) : Prop :=
  ∃ y : SlV E, e = .returned (.tuple #[(entC key D.length (refC D key)).val, .bool false, .nilIface]) ∧ y.xs = (addC (q.getD k SlV.nil).xs (entC key D.length (refC D key))).1 ∧ MeshO base w' m s g vs D (q.set k y) ∧ Fr (fun i => i = g) w w' ∧ ∀ i, foot y.val = some i → w.heap.size ≤ i

set_option maxHeartbeats 8000000 in
set_option maxRecDepth 100000 in
theorem mget_miss (n : Nat) (key fl : Int) (w : World) (hB : base ≤ w.heap.size) (h : MeshO base w m s g vs D q) (hn : n < q.length) (hkey : keyB key = true) (hf0 : 0 ≤ fl) (hfl : fl ≤ (D.length : Int)) (hx : ∀ x, lk q[n].xs key = some x → x.asof < fl) :
    Calls Tryd.prog 15 #[.pointer (some ⟨m, 0, none⟩), .int .i64 n, .int .i64 key, .int .i64 fl] w (MMiss base m s g vs D q n key w) := by
  have HN := hid (fun W (hW : Below w.heap.size w W) => mnode_any n W (h.belowS hW))
  rw [show inM q.length (n : Int) = true from inM_true.2 ⟨by omega, by omega⟩] at HN
  have HS := hid (fun W (hW : Below w.heap.size w W) => sseq_any base s vs (lsOf D) D.length W (h.belowS hW).st)
  have HM := hid (fun W (hW : Below w.heap.size w W) => h.belowS hW)
  have HPt := hid (fun i (hi : MPart m s g vs q i) => (h.part hi).2)
  have HL := hid (fun W (hW : Below w.heap.size w W) => mlearn_any n key W (Nat.le_trans hB hW.size) (h.belowS hW) hn hkey)
  have hmem := List.getElem_mem hn
  have hcd := h.cac _ hmem
  obtain ⟨hn8, -, hS, hK⟩ := chkC_ok hcd.1
  have hown := h.own _ hmem
  have hat := h.at hn
  have hl := h.lt
  have hg := h.row.lt
  have hd0 : (D.length : Int) ≤ 1000 := by have := h.deeds.len; omega
  have hq6 := h.six
  have hnq : (n : Int) < (q.length : Int) := by omega
  unfold MMiss
  unfold MLearn at HL
  generalize entC key (D.length : Int) (refC D key) = x at *
  obtain ⟨x0, x1, x2, x3, x4⟩ := x
  simp only [E.val] at HL ⊢
  have hxx := hx
  rw [at_lk (val_iff.1 hcd.1).1] at hxx
  have hgd : q.getD n SlV.nil = q[n] := getD_get _ hn
  have Hgd := hid hgd
  generalize q[n] = c at *
  have HP := hid (fun W (hW : Below w.heap.size w W) => place_any key c W (hown.es.stays hW).entries hS hK (keyB_true.1 hkey) hn8)
  have hfact : hasK key c.xs = false ∨ (hasK key c.xs = true ∧ ∃ cb co y, c.A = some ⟨cb, co, none⟩ ∧ cb < w.heap.size ∧ plc key c.xs < c.xs.length ∧ EAt w cb (co + plc key c.xs * 5) y ∧ y.asof < fl) := by
    rcases hh : hasK key c.xs with _ | _
    · exact .inl rfl
    · have hp : plc key c.xs < c.xs.length := by
        unfold hasK at hh
        simp at hh
        exact hh.1
      obtain ⟨cb, co, hcA, hcb, hcells⟩ := hown.es.row (by omega)
      exact .inr ⟨rfl, cb, co, _, hcA, hcb, hp, hcells _ hp, hxx _ (by rw [hh, if_pos rfl])⟩
  have HAt := hid (fun W (hW : Below w.heap.size w W) => show W.cell? ⟨g, n, none⟩ = some (.slice c.A c.xs.length c.c) from (hW.cell (p := ⟨g, n, none⟩) hg).trans hat)
  have HC1 := hid (fun W (hW : Below w.heap.size w W) => (HM.out W hW).c1)
  have HC0 := hid (fun W (hW : Below w.heap.size w W) => (HM.out W hW).c0)
  have Hkey := hid hkey
  have Hfact := hid hfact
  clear h hmem hcd hS hK hown hat hkey hx hxx hgd hfact
  go_enter Tryd.func15, Tryd.ntmps15
  go_upto_region 1 with fail
  obtain ⟨w1, hw1⟩ : ∃ W : World, W = w.alloc (.cells #[.int .i64 0, .int .i64 0, .int .i64 0, .bool false, .string ⟨#[]⟩] 38) := ⟨_, rfl⟩
  rw [← hw1]
  have HZ1 := hid (show Blk w1 w.heap.size 38 #[.int .i64 0, .int .i64 0, .int .i64 0, .bool false, .string ⟨#[]⟩] by rw [hw1]; exact Blk.new _ _ _)
  have Hb1 := hid (show Below w.heap.size w w1 by rw [hw1]; exact (Below.refl _ _).alloc (Nat.le_refl _) _)
  have hz1 := Hb1.out.size
  have hlz := HZ1.out.lt
  clear hw1
  go_cut [36] (fun t wx => t = .bool false ∧ wx = w1)
  case first =>
    have d0 := HC0.out w1 Hb1.out
    have hm1 : m < w1.heap.size := by omega
    have hnl : ¬ fl < 0 := by omega
    have hnl2 : ¬ (D.length : Int) < fl := by omega
    go_wp2_with (first
      | (go_at_call 25; refine (HN.out _ Hb1.out).mono ?_; rintro e wn ⟨rfl, rfl⟩)
      | (go_at_call 33; refine (key_any _ _).mono ?_; rintro e wn ⟨rfl, rfl⟩; rw [Hkey.out])
      | (go_at_call 36; refine (HS.out _ Hb1.out).mono ?_; rintro e wn ⟨rfl, rfl⟩))
    go_meet
    exact ⟨by first | rfl | (congr 1; simp; omega), rfl⟩
  case rest =>
  obtain ⟨rfl, hwc⟩ := hcut
  obtain rfl : w1 = wc := hwc.symm
  have d1 := HC1.out w1 Hb1.out
  have d2 := HAt.out w1 Hb1.out
  have hm1 : m < w1.heap.size := by omega
  have hg1 : g < w1.heap.size := by omega
  have HP1 := hid (HP.out w1 Hb1.out)
  clear HP HN HS
  go_wp2_with fail
  refine HP1.out.mono ?_
  rintro e w2 ⟨rfl, hb2⟩
  have Hb2 := hid (Below.step Hb1.out hb2 hz1)
  have hz2 := Hb2.out.size
  have HZ2 := hid (HZ1.out.belowS hb2)
  have hl2 := HZ2.out.lt
  have d1 := HC1.out w2 Hb2.out
  have d2 := HAt.out w2 Hb2.out
  have hm2 : m < w2.heap.size := by omega
  have hg2 : g < w2.heap.size := by omega
  obtain ⟨hb_, hhb⟩ : ∃ hb_, hasK key c.xs = hb_ := ⟨_, rfl⟩
  rw [hhb]
  have Hhb := hid hhb
  clear hb2 HP1 hm1 hg1 hhb
  go_upto_region 4 with fail
  go_cut [66] (fun t wx => t = .bool false ∧ wx = w2)
  case first =>
    rcases Hfact.out with h | ⟨h, cb, co, y, hcA, hcb, hp, hE, hy⟩
    · obtain rfl : hb_ = false := by rw [← Hhb.out, h]
      clear h
      go_wp2_with fail
      go_meet
      exact ⟨rfl, rfl⟩
    · obtain rfl : hb_ = true := by rw [← Hhb.out, h]
      obtain ⟨k0, k1, k2, k3, k4⟩ := hE.stays Hb2.out hcb
      have hc2 : cb < w2.heap.size := by omega
      have hpl : (plc key c.xs : Int) < (c.xs.length : Int) := by omega
      have hny : ¬ fl ≤ y.asof := by omega
      rw [hcA] at d2
      generalize plc key c.xs = p at *
      clear h hE hcA
      go_wp2_with fail
      go_meet
      exact ⟨rfl, rfl⟩
  case rest =>
  obtain ⟨rfl, hwc⟩ := hcut
  obtain rfl : w2 = wc := hwc.symm
  have HL2 := hid (HL.out w2 Hb2.out)
  clear d1 d2 HL Hfact
  go_wp2_with fail
  refine HL2.out.mono ?_
  rintro e w3 ⟨y, rfl, hyx, hM3, hF3, hyb⟩
  have HZ3 := hid (HZ2.out.fr hF3 (show ¬ w.heap.size = g by omega))
  have hb3w : Fr (fun i => i = g) w w3 := (Fr.ofB Hb2.out).step hF3
  have Hyx := hid hyx
  have HM3 := hid hM3
  have HF3 := hid hb3w
  have hz3 := hb3w.size
  have hfy : ∀ i, foot y.val = some i → w.heap.size < i := fun i hi => by have := hyb i hi; omega
  have Hfy := hid hfy
  clear hyx hM3 hF3 hb3w hfy hyb HL2
  go_upto_region 7 with fail
  obtain ⟨w4, hw4⟩ : ∃ W : World, W = w3.alloc (.cells #[.int .i64 x0, .int .i64 x1, .int .i64 x2, .bool x3, .string x4] 38) := ⟨_, rfl⟩
  rw [← hw4]
  have HX4 := hid (show Blk w4 w3.heap.size 38 #[.int .i64 x0, .int .i64 x1, .int .i64 x2, .bool x3, .string x4] by rw [hw4]; exact Blk.new _ _ _)
  have HZ4 := hid (show Blk w4 w.heap.size 38 #[.int .i64 0, .int .i64 0, .int .i64 0, .bool false, .string ⟨#[]⟩] by rw [hw4]; exact HZ3.out.alloc _)
  have HM4 := hid (show MeshO base w4 m s g vs D (q.set n y) by rw [hw4]; exact HM3.out.belowS ((Below.refl _ _).alloc (Nat.le_refl _) _))
  have HF4 := hid (show Fr (fun i => i = g) w w4 by rw [hw4]; exact HF3.out.alloc _)
  have hX4 := HX4.out
  have hZ4 := HZ4.out
  have e0 : w4.cell? ⟨w3.heap.size, 0, none⟩ = some (.int .i64 x0) := hX4.cell 0
  have e1 : w4.cell? ⟨w3.heap.size, 1, none⟩ = some (.int .i64 x1) := hX4.cell 1
  have e2 : w4.cell? ⟨w3.heap.size, 2, none⟩ = some (.int .i64 x2) := hX4.cell 2
  have e3 : w4.cell? ⟨w3.heap.size, 3, none⟩ = some (.bool x3) := hX4.cell 3
  have e4 : w4.cell? ⟨w3.heap.size, 4, none⟩ = some (.string x4) := hX4.cell 4
  have y0 : w4.cell? ⟨w.heap.size, 0, none⟩ = some (.int .i64 0) := hZ4.cell 0
  have y1 : w4.cell? ⟨w.heap.size, 1, none⟩ = some (.int .i64 0) := hZ4.cell 1
  have y2 : w4.cell? ⟨w.heap.size, 2, none⟩ = some (.int .i64 0) := hZ4.cell 2
  have y3 : w4.cell? ⟨w.heap.size, 3, none⟩ = some (.bool false) := hZ4.cell 3
  have y4 : w4.cell? ⟨w.heap.size, 4, none⟩ = some (.string ⟨#[]⟩) := hZ4.cell 4
  have f0 := hZ4.frozen 0
  have f1 := hZ4.frozen 1
  have f2 := hZ4.frozen 2
  have f3 := hZ4.frozen 3
  have f4 := hZ4.frozen 4
  have hl4 := hX4.lt
  have hl5 := hZ4.lt
  clear hw4 hX4 hZ4
  go_wp2_with fail
  refine bodyPost_ret (v := .tuple #[.agg #[.int .i64 x0, .int .i64 x1, .int .i64 x2, .bool x3, .string x4], .bool false, .nilIface]) ?_ rfl ⟨y, rfl, Hyx.out, ?_, ?_, fun i hi => Nat.le_of_lt (Hfy.out i hi)⟩
  · exact results_boxT Tryd.results15 rfl (Blk.put5 HZ4.out _ _ _ _ _) Tryd.underlying38 rfl (by kernel_rfl)
  · have hF : Fr (fun i => i = w.heap.size) w4 _ := ((((((Fr.refl (fun i => i = w.heap.size) w4).setCell (p := ⟨w.heap.size, 0, none⟩) (.inl rfl) (.int .i64 x0)).setCell (p := ⟨w.heap.size, 1, none⟩) (.inl rfl) (.int .i64 x1)).setCell (p := ⟨w.heap.size, 2, none⟩) (.inl rfl) (.int .i64 x2)).setCell (p := ⟨w.heap.size, 3, none⟩) (.inl rfl) (.bool x3)).setCell (p := ⟨w.heap.size, 4, none⟩) (.inl rfl) (.string x4))
    refine HM4.out.fr hF (fun i hi e => ?_)
    rcases hi.set with hi | hi
    · have := HPt.out i hi; omega
    · have := Hfy.out i hi; omega
  · exact (((((HF4.out.setCell (p := ⟨w.heap.size, 0, none⟩) (.inr (Nat.le_refl _)) _).setCell (p := ⟨w.heap.size, 1, none⟩) (.inr (Nat.le_refl _)) _).setCell (p := ⟨w.heap.size, 2, none⟩) (.inr (Nat.le_refl _)) _).setCell (p := ⟨w.heap.size, 3, none⟩) (.inr (Nat.le_refl _)) _).setCell (p := ⟨w.heap.size, 4, none⟩) (.inr (Nat.le_refl _)) _)
end
end Go.Proofs.YtlcbdhblaamekaaDoor
namespace Go.Proofs.YtlcbdhblaamekaaDoor
open Go.RowKit
open Go.ChangeShapes Go.WideShapes Go.ChangeAt

/-- caches that know nothing -/
def noneC (N : Nat) : List (SlV E) := List.replicate N ⟨none, 0, []⟩
theorem noneC_len (N : Nat) : (noneC N).length = N := List.length_replicate
theorem OwnC.none (base : Nat) (w : World) : OwnC base w ⟨none, 0, []⟩ := ⟨Ow.nil _ _ _ _ _, fun y hy => by cases hy⟩
theorem MeshO.mk0 {base : Nat} {X : World} {s g m N : Nat} (hN : N ≤ 6) (hst : StoreO base X s (List.replicate 8 nilS) (List.replicate 8 []) 0) (hrow : Blk X g 34 ((noneC N).map SlV.val).toArray) (hg : base ≤ g) (hm : m = X.heap.size) (hb : base ≤ X.heap.size) :
    MeshO base (X.alloc (.cells #[.pointer (some ⟨s, 0, none⟩), .slice (some ⟨g, 0, none⟩) N N] 64)) m s g (List.replicate 8 nilS) [] (noneC N) := by
  subst hm
  have hl := noneC_len N
  refine ⟨?_, hst.belowS ((Below.refl _ _).alloc (Nat.le_refl _) _), StP.new, hrow.alloc _, fun c hc => ?_, fun c hc => ?_, Deeds.nil, by rw [hl]; exact hN, hb, hg⟩
  · rw [hl]; exact Blk.new _ _ _
  · rw [(List.mem_replicate.1 hc).2]; exact OwnC.none _ _
  · rw [(List.mem_replicate.1 hc).2]; exact CacheD.nil _
/-- a mesh just made -/
def MNewR (w : World) (N : Nat) (v : Value) (w' : World) : Prop := ∃ m s g, v = .pointer (some ⟨m, 0, none⟩) ∧ MeshO w.heap.size w' m s g (List.replicate 8 nilS) [] (noneC N) ∧ Below w.heap.size w w'
theorem MNewR.one {w : World} {N s : Nat} {wj X : World} (hN : N ≤ 6) (hX : Below w.heap.size w X) (hO : StoreO X.heap.size wj s (List.replicate 8 nilS) (List.replicate 8 []) 0) (hb : Below X.heap.size X wj) {g m : Nat} (hg : g = wj.heap.size) (hm : m = wj.heap.size + 1) (cs : Array Value) (hcs : cs = ((noneC N).map SlV.val).toArray) :
    MNewR w N (.pointer (some ⟨m, 0, none⟩)) ((wj.alloc (.cells cs 34)).alloc (.cells #[.pointer (some ⟨s, 0, none⟩), .slice (some ⟨g, 0, none⟩) N N] 64)) := by
  subst hcs hg hm
  have hb2 := Below.step hX hb hX.size
  have hz := hb2.size
  exact ⟨_, s, _, rfl, MeshO.mk0 hN ((hO.monoB hX.size).belowS ((Below.refl _ _).alloc (Nat.le_refl _) _)) (Blk.new _ _ _) hz (by simp) (by simp; omega), (hb2.alloc hz _).alloc (by simp; omega) _⟩
theorem MNewR.two {w : World} {N s g : Nat} {wj X : World} {cs : Array Value} (hN : N ≤ 6) (hX : Below w.heap.size w X) (hcs : cs = ((noneC N).map SlV.val).toArray) (hrow : Blk X g 34 cs) {s0 : Nat} (hO : StoreO X.heap.size wj s0 (List.replicate 8 nilS) (List.replicate 8 []) 0) (hs0 : s = s0) (hb : Below X.heap.size X wj) (hgw : w.heap.size ≤ g) {m : Nat} (hm : m = wj.heap.size) :
    MNewR w N (.pointer (some ⟨m, 0, none⟩)) (wj.alloc (.cells #[.pointer (some ⟨s, 0, none⟩), .slice (some ⟨g, 0, none⟩) N N] 64)) := by
  subst hcs hm hs0
  have hb2 := Below.step hX hb hX.size
  have hz := hb2.size
  exact ⟨_, s, g, rfl, MeshO.mk0 hN (hO.monoB hX.size) (hrow.belowS hb) hgw rfl hz, hb2.alloc hz _⟩

theorem made_none {N : Nat} (h6 : N ≤ 6) : madeCells #[.slice none 0 0] N = ((noneC N).map SlV.val).toArray := by
  rcases (show N = 0 ∨ N = 1 ∨ N = 2 ∨ N = 3 ∨ N = 4 ∨ N = 5 ∨ N = 6 by omega) with rfl | rfl | rfl | rfl | rfl | rfl | rfl <;> kernel_rfl
set_option maxHeartbeats 4000000 in
theorem mnew_ok (N : Nat) (w : World) (h1 : 1 ≤ N) (h6 : N ≤ 6) :
    Calls Tryd.prog 6 #[.int .i64 N] w fun e w' => ∃ v, e = .returned (.tuple #[v, .nilIface]) ∧ MNewR w N v w' := by
  obtain ⟨i0, hi0, hz0, hzs, hzb⟩ := info_parts infoSE
  have hmk : ∀ W : World, (Instr.makeSlice 62 (.int .i64 (N : Int)) (.int .i64 (N : Int))).run Tryd.prog W = .ok (.slice (some ⟨W.heap.size, 0, none⟩) N N) (W.alloc (.cells (madeCells #[.slice none 0 0] N) 34)) := fun W => by
    have := run_make (P := Tryd.prog) W 62 34 i0 (.slice none 0 0) Tryd.underlying62 hi0 hz0 .i64 .i64 (N : Int) (N : Int) (by omega) (by omega) (by rw [hzb]; omega) (by omega)
    rw [Int.toNat_natCast, hzs, Nat.mul_one] at this
    exact this
  have hn1 : ¬ (N : Int) < 1 := by omega
  have hn6 : ¬ (6 : Int) < (N : Int) := by omega
  have H6 := hid h6
  have Hcs := hid (made_none h6)
  clear hi0 hz0 hzs hzb h1 h6
  go_enter Tryd.func6, Tryd.ntmps6
  go_upto_region 3 with fail
  go_cut [2, 3] (fun v er wx => er = .nilIface ∧ MNewR w N v wx)
  case first =>
    go_region_law (first | (go_simp; go_at_call 21; refine (snew_any _).mono ?_; rintro e wj ⟨rfl, hOj, hbj⟩; have hzj := hbj.size))
    · go_wp2_with fail
      go_meet
      exact ⟨rfl, MNewR.one (X := w.drew) H6.out ((Below.refl _ _).drew) hOj hbj rfl rfl _ Hcs.out⟩
    · go_wp2_with fail
      go_meet
      exact ⟨rfl, MNewR.two (X := (w.alloc (.cells (madeCells #[.slice none 0 0] N) 34)).drew) H6.out (((Below.refl _ _).alloc (Nat.le_refl _) _).drew) Hcs.out ((Blk.new w _ _).drew) hOj (by show _ = (w.alloc _).heap.size; simp) hbj (Nat.le_refl _) rfl⟩
  case rest =>
  obtain ⟨rfl, hM⟩ := hcut
  go_wp2_with fail
  go_ret2
  exact ⟨_, rfl, hM⟩
theorem mnew_bad (n : Int) (w : World) (h : n < 1 ∨ 6 < n) :
    Calls Tryd.prog 6 #[.int .i64 n] w fun e w' => e = .returned (.tuple #[.pointer none, .iface 59 (.int .i64 1)]) ∧ Below w.heap.size w w' := by
  rcases (show n < 1 ∨ (¬ n < 1 ∧ 6 < n) by omega) with h | ⟨h1, h⟩
  all_goals
    go_enter Tryd.func6, Tryd.ntmps6
    go_wp2_with fail
    go_ret2
    exact ⟨rfl, Below.refl _ _⟩
end Go.Proofs.YtlcbdhblaamekaaDoor
