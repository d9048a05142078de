/-
  THE REFERENCE's MESH (mereref2.Mesh): how it lies, and CONTRACTS of its Learn, Get, Put, Swap: the same plain functions as the program's. CONDITIONS: none.
-/
import Derived.Test.YtemhdfodghfkfaaGreatDoorRStore
import Derived.Test.YtemhdfodghfkfaaGreatDoorRSwap
import Derived.Test.YtemhdfodghfkfaaGreatDoorMeshSwap
import Derived.Deep.RegionLaw
import Derived.Deep.CutBlock
import Derived.Deep.DeepCutAuto
import Derived.Deep.RegionHeld3
namespace Go.Proofs.YtemhdfodghfkfaaGreatDoor
open Go.RowKit
open Go.ChangeShapes Go.WideShapes Go.ChangeAt

theorem tyQ1 : (59 : TypeId) ≠ 29 := by decide
theorem tyQ2 : (32 : TypeId) ≠ 29 := by decide
theorem tyQ3 : (27 : TypeId) ≠ 29 := by decide
theorem tyQ4 : (32 : TypeId) ≠ 27 := by decide
theorem tyQ5 : (59 : TypeId) ≠ 32 := by decide
/-- where the reference's mesh lies -/
structure RMeshO (base : Nat) (w : World) (m b g : Nat) (v : Value) (D : List E) (q : List (SlV E)) : Prop where
  blk : Blk w m 32 #[.pointer (some ⟨b, 0, none⟩), .slice (some ⟨g, 0, none⟩) q.length q.length]
  st : RStoreO base w b v D
  row : Blk w g 27 (q.map SlV.val).toArray
  own : ∀ c ∈ q, OwnC base w c
  off : ∀ c ∈ q, ∀ i, foot c.val = some i → foot v ≠ some i
  cac : ∀ c ∈ q, CacheD D c.xs
  deeds : Deeds D
  six : q.length ≤ 6
  bm : base ≤ m
  bg : base ≤ g
section
variable {base m b g : Nat} {w w' : World} {v : Value} {D : List E} {q : List (SlV E)}
theorem RMeshO.belowS (h : RMeshO base w m b g v D q) (hb : Below w.heap.size w w') : RMeshO base w' m b g v D q :=
  ⟨h.blk.belowS hb, h.st.belowS hb, h.row.belowS hb, fun c hc => (h.own c hc).belowS hb, h.off, h.cac, h.deeds, h.six, h.bm, h.bg⟩
theorem RMeshO.lt (h : RMeshO base w m b g v D q) : m < w.heap.size := h.blk.lt
theorem RMeshO.c0 (h : RMeshO base w m b g v D q) : w.cell? ⟨m, 0, none⟩ = some (.pointer (some ⟨b, 0, none⟩)) := h.blk.cell 0
theorem RMeshO.c1 (h : RMeshO base w m b g v D q) : w.cell? ⟨m, 1, none⟩ = some (.slice (some ⟨g, 0, none⟩) q.length q.length) := h.blk.cell 1
theorem RMeshO.at (h : RMeshO base w m b g v D q) {k : Nat} (hk : k < q.length) : w.cell? ⟨g, k, none⟩ = some (.slice q[k].A q[k].xs.length q[k].c) := by
  have := h.row.cell k
  rw [this]
  simp [hk, SlV.val]
theorem RMeshO.mb (h : RMeshO base w m b g v D q) : m ≠ b := fun e => by
  have := h.blk
  rw [e] at this
  exact tyQ2 (this.eq_ h.st.blk).2
theorem RMeshO.gb (h : RMeshO base w m b g v D q) : g ≠ b := fun e => by
  have := h.row
  rw [e] at this
  exact tyQ3 (this.eq_ h.st.blk).2
theorem RMeshO.mg (h : RMeshO base w m b g v D q) : m ≠ g := fun e => by
  have := h.blk
  rw [e] at this
  exact tyQ4 (this.eq_ h.row).2
theorem RMeshO.vg (h : RMeshO base w m b g v D q) : foot v ≠ some g := fun e => h.st.own.apartB h.row tyR1 e rfl
theorem RMeshO.vm (h : RMeshO base w m b g v D q) : foot v ≠ some m := fun e => h.st.own.apartB h.blk tyQ5 e rfl
/-- a cache is put in the place of another -/
theorem RMeshO.put (h : RMeshO base w m b g v D q) {k : Nat} {y : SlV E} (hy : OwnC base w y) (ho : ∀ i, foot y.val = some i → foot v ≠ some i) (hc : CacheD D y.xs) : RMeshO base (w.setCell ⟨g, k, none⟩ y.val) m b g v D (q.set k y) := by
  have hF : Fr (fun i => i = g) w (w.setCell ⟨g, k, none⟩ y.val) := (Fr.refl (fun i => i = g) w).setCell (p := ⟨g, k, none⟩) (.inl rfl) _
  refine ⟨?_, h.st.fr hF h.gb.symm (fun i hi e => h.vg (by rw [hi, e])), ?_, fun c hcm => ?_, fun c hcm => ?_, fun c hcm => ?_, h.deeds, by rw [List.length_set]; exact h.six, h.bm, h.bg⟩
  · rw [List.length_set]
    exact h.blk.fr hF h.mg
  · have := h.row.put k y.val
    rw [List.map_set]
    simpa using this
  · have hx : OwnC base w c := by
      rcases List.mem_or_eq_of_mem_set hcm with hcm | rfl
      · exact h.own c hcm
      · exact hy
    exact ⟨hx.1.fr hF (fun i hi => hx.1.apartB h.row tyR1 hi), hx.2⟩
  · rcases List.mem_or_eq_of_mem_set hcm with hcm | rfl
    · exact h.off c hcm
    · exact ho
  · rcases List.mem_or_eq_of_mem_set hcm with hcm | rfl
    · exact h.cac c hcm
    · exact hc
/-- the blocks of the reference's mesh -/
def RPart (m b g : Nat) (v : Value) (q : List (SlV E)) (i : Nat) : Prop := i = m ∨ i = b ∨ i = g ∨ foot v = some i ∨ ∃ c ∈ q, foot c.val = some i
theorem RMeshO.part (h : RMeshO base w m b g v D q) {i : Nat} (hi : RPart m b g v q i) : base ≤ i ∧ i < w.heap.size := by
  rcases hi with rfl | rfl | rfl | hf | ⟨c, hc, hf⟩
  · exact ⟨h.bm, h.blk.lt⟩
  · exact ⟨h.st.base, h.st.lt⟩
  · exact ⟨h.bg, h.row.lt⟩
  · exact h.st.own.lt hf
  · exact (h.own c hc).1.lt hf
theorem RMeshO.fr {S : Nat → Prop} (h : RMeshO base w m b g v D q) (hF : Fr S w w') (hS : ∀ i, RPart m b g v q i → ¬ S i) : RMeshO base w' m b g v D q :=
  ⟨h.blk.fr hF (hS _ (.inl rfl)), h.st.fr hF (hS _ (.inr (.inl rfl))) (fun _ hi => hS _ (.inr (.inr (.inr (.inl hi))))), h.row.fr hF (hS _ (.inr (.inr (.inl rfl)))), fun c hc => ⟨(h.own c hc).1.fr hF (fun _ hi => hS _ (.inr (.inr (.inr (.inr ⟨c, hc, hi⟩))))), (h.own c hc).2⟩, h.off, h.cac, h.deeds, h.six, h.bm, h.bg⟩
theorem RPart.set {k : Nat} {y : SlV E} {i : Nat} (h : RPart m b g v (q.set k y) i) : RPart m b g v q i ∨ foot y.val = some i := by
  rcases h with h | h | h | h | ⟨c, hc, hf⟩
  · exact .inl (.inl h)
  · exact .inl (.inr (.inl h))
  · exact .inl (.inr (.inr (.inl h)))
  · exact .inl (.inr (.inr (.inr (.inl h))))
  · rcases List.mem_or_eq_of_mem_set hc with hc | rfl
    · exact .inl (.inr (.inr (.inr (.inr ⟨c, hc, hf⟩))))
    · exact .inr hf
/-- a deed of the reference's store -/
theorem RMeshO.deed (h : RMeshO base w m b g v D q) {D' : List E} {v' : Value} (hR : RStoreO base w' b v' D') (hF : Fr (fun i => i = b ∨ some i = foot v) w w') (hf : foot v' = foot v ∨ ∃ k, foot v' = some k ∧ w.heap.size ≤ k) (hD : Deeds D') (hm : ∃ r, D' = D ++ r) : RMeshO base w' m b g v' D' q := by
  refine ⟨h.blk.fr hF (fun hs => ?_), hR, h.row.fr hF (fun hs => ?_), fun c hc => ⟨(h.own c hc).1.fr hF (fun i hi hs => ?_), (h.own c hc).2⟩, fun c hc i hi => ?_, fun c hc => (h.cac c hc).more hm, hD, h.six, h.bm, h.bg⟩
  · rcases hs with hs | hs
    · exact h.mb hs
    · exact h.vm hs.symm
  · rcases hs with hs | hs
    · exact h.gb hs
    · exact h.vg hs.symm
  · rcases hs with hs | hs
    · exact (h.own c hc).1.apartB h.st.blk tyQ1 hi hs
    · exact h.off c hc i hi hs.symm
  · rcases hf with hf | ⟨k, hf, hk⟩
    · rw [hf]; exact h.off c hc i hi
    · rw [hf]
      intro e
      cases e
      have := ((h.own c hc).1.lt hi).2
      omega
end
/-- the reference's mesh at m with these deeds and caches, all of it in A -/
def RMeshW (base : Nat) (w : World) (m : Nat) (D : List E) (C : List (List E)) (A : Nat → Prop) : Prop :=
  ∃ b g v q, RMeshO base w m b g v D q ∧ q.map SlV.xs = C ∧ ∀ i, RPart m b g v q i → A i
/-- what was made since then comes to it -/
def AOr (A : Nat → Prop) (w w' : World) (i : Nat) : Prop := A i ∨ (w.heap.size ≤ i ∧ i < w'.heap.size)
section
variable {base m : Nat} {w w' : World} {D : List E} {C : List (List E)} {A : Nat → Prop}
theorem RMeshW.belowS (h : RMeshW base w m D C A) (hb : Below w.heap.size w w') : RMeshW base w' m D C A := by
  obtain ⟨b, g, v, q, h1, h2, h3⟩ := h
  exact ⟨b, g, v, q, h1.belowS hb, h2, h3⟩
theorem RMeshW.fr {S : Nat → Prop} (h : RMeshW base w m D C A) (hF : Fr S w w') (hS : ∀ i, S i → ¬ A i) : RMeshW base w' m D C A := by
  obtain ⟨b, g, v, q, h1, h2, h3⟩ := h
  exact ⟨b, g, v, q, h1.fr hF (fun i hi hs => hS i hs (h3 i hi)), h2, h3⟩
theorem RMeshW.more {A' : Nat → Prop} (h : RMeshW base w m D C A) (hA : ∀ i, A i → A' i) : RMeshW base w m D C A' := by
  obtain ⟨b, g, v, q, h1, h2, h3⟩ := h
  exact ⟨b, g, v, q, h1, h2, fun i hi => hA i (h3 i hi)⟩
theorem RMeshW.lt (h : RMeshW base w m D C A) : base ≤ m ∧ m < w.heap.size := by
  obtain ⟨b, g, v, q, h1, h2, h3⟩ := h
  exact ⟨h1.bm, h1.lt⟩
/-- the program's mesh lies apart from what the reference made -/
theorem MeshW.stepA {m : Nat} (h : MeshW base w m D C A) (hF : Fr A w w') : MeshW base w' m D C (AOr A w w') := by
  obtain ⟨s, g, vs, q, h1, h2, h3⟩ := h
  refine ⟨s, g, vs, q, h1.fr hF h3, h2, fun i hi ha => ?_⟩
  rcases ha with ha | ha
  · exact h3 i hi ha
  · have := (h1.part hi).2; omega
end

theorem Fr.five (W : World) (B : Nat) (a b c d e : Value) : Fr (fun i => i = B) W (((((W.setCell ⟨B, 0, none⟩ a).setCell ⟨B, 1, none⟩ b).setCell ⟨B, 2, none⟩ c).setCell ⟨B, 3, none⟩ d).setCell ⟨B, 4, none⟩ e) :=
  (((((Fr.refl (fun i => i = B) W).setCell (p := ⟨B, 0, none⟩) (.inl rfl) a).setCell (p := ⟨B, 1, none⟩) (.inl rfl) b).setCell (p := ⟨B, 2, none⟩) (.inl rfl) c).setCell (p := ⟨B, 3, none⟩) (.inl rfl) d).setCell (p := ⟨B, 4, none⟩) (.inl rfl) e
section
variable {base m b g : Nat} {v : Value} {D : List E} {q : List (SlV E)}
/-- what Learn leaves -/
def RMLearn (base m b g : Nat) (v : Value) (D : List E) (q : List (SlV E)) (k : Nat) (key : Int) (w : World) (e : Ending) (w' : World) : Prop :=
  ∃ y : SlV E, e = .returned (entC key D.length (refC D key)).val ∧ y.xs = (addC (q.getD k SlV.nil).xs (entC key D.length (refC D key))).1 ∧ RMeshO base w' m b g v D (q.set k y) ∧ Fr (fun i => i = g) w w' ∧ ∀ i, foot y.val = some i → w.heap.size ≤ i
set_option maxHeartbeats 8000000 in
set_option maxRecDepth 100000 in
theorem rmlearn_any (k : Nat) (key : Int) (w : World) (hB : base ≤ w.heap.size) (h : RMeshO base w m b g v D q) (hk : k < q.length) (hkey : keyB key = true) :
    Calls Tryz.prog 34 #[.pointer (some ⟨m, 0, none⟩), .int .i64 k, .int .i64 key] w (RMLearn base m b g v D q k key w) := by
  have HRd := hid (fun W (hW : Below w.heap.size w W) => rRead_any base b key v D W (h.st.belowS hW))
  have HM := hid (fun W (hW : Below w.heap.size w W) => h.belowS hW)
  have hmem := List.getElem_mem hk
  have hcd := h.cac _ hmem
  have hnow : TrueD D (entC key D.length (refC D key)) := TrueD.now hkey
  obtain ⟨ha0, hac, -⟩ := hcd.add h.deeds hnow
  have hek : chk (entC key D.length (refC D key)) = 0 := hnow.chk h.deeds
  obtain ⟨hn8, -, hS, hK⟩ := chkC_ok hcd.1
  have hval := hcd.1
  have hgd : q.getD k SlV.nil = q[k] := getD_get _ hk
  have c1 := h.c1
  have c0 := h.c0
  have hg := h.row.lt
  have hat := h.at hk
  have hown := h.own _ hmem
  unfold RMLearn
  rw [hgd]
  generalize q[k] = c at *
  generalize entC key D.length (refC D key) = x at *
  obtain ⟨x0, x1, x2, x3, x4⟩ := x
  have HAd := hid (fun W (hW : Below w.heap.size w W) => show Calls _ _ _ W (RARes W (addC c.xs ⟨x0, x1, x2, x3, x4⟩)) by
    have := radd_any c x0 x1 x2 x3 x4 W (hown.es.stays hW) hn8
    rw [radd_addC hval] at this
    exact this)
  unfold RARes at HAd
  rw [ha0] at HAd
  have Hgood := hid (val_good hac.1)
  have Hac := hid hac
  generalize (addC c.xs ⟨x0, x1, x2, x3, x4⟩).1 = l2 at *
  simp only [E.val] at HRd ⊢
  have hk0 : (0 : Int) ≤ (k : Int) := by omega
  have hkl : (k : Int) < (q.length : Int) := by omega
  have HB := hid hB
  have HC1 := hid (fun W (hW : Below w.heap.size w W) => (HM.out W hW).c1)
  have Hat := hid (fun W (hW : Below w.heap.size w W) => show W.cell? ⟨g, k, none⟩ = some (.slice c.A c.xs.length c.c) from (hW.cell (p := ⟨g, k, none⟩) hg).trans hat)
  have hlm := h.lt
  have HP := hid (fun i (hi : RPart m b g v q i) => (h.part hi).2)
  clear h hmem hcd hnow ha0 hac hek hS hK hgd hown hat c1 hB hval
  go_enter Tryz.func34, Tryz.ntmps34
  go_wp2_with fail
  refine (HRd.out _ (by (repeat (first | with_reducible exact Below.refl _ _ | with_reducible assumption | (with_reducible refine Below.drew ?_) | (with_reducible refine Below.manyDrew ?_ _) | ((with_reducible refine Below.alloc ?_ ?_ _); rotate_left; (focus (first | omega | (dsimp only; omega) | (simp; done) | (simp; omega)))) | ((with_reducible refine Below.setCell ?_ ?_ _); rotate_left; (focus (first | omega | (dsimp only; omega) | (simp; done) | (simp; omega)))) | ((with_reducible refine Below.step ?_ (by assumption) ?_); rotate_left; (focus (first | omega | (dsimp only; omega) | (simp; done) | (simp; omega)))))))).mono ?_
  rintro e w1 ⟨rfl, hb1⟩
  have hB0 := (Blk.new w 59 #[.int .i64 0, .int .i64 0, .int .i64 0, .bool false, .string ⟨#[]⟩]).belowS hb1
  have hbw1 : Below w.heap.size w w1 := by (repeat (first | with_reducible exact Below.refl _ _ | with_reducible assumption | (with_reducible refine Below.drew ?_) | (with_reducible refine Below.manyDrew ?_ _) | ((with_reducible refine Below.alloc ?_ ?_ _); rotate_left; (focus (first | omega | (dsimp only; omega) | (simp; done) | (simp; omega)))) | ((with_reducible refine Below.setCell ?_ ?_ _); rotate_left; (focus (first | omega | (dsimp only; omega) | (simp; done) | (simp; omega)))) | ((with_reducible refine Below.step ?_ (by assumption) ?_); rotate_left; (focus (first | omega | (dsimp only; omega) | (simp; done) | (simp; omega))))))
  have hz1 := hbw1.size
  clear hb1 HRd
  go_upto_region 2 with fail
  obtain ⟨w2, hw2⟩ : ∃ W : World, W = w1.alloc (.cells #[.int .i64 x0, .int .i64 x1, .int .i64 x2, .bool x3, .string x4] 59) := ⟨_, rfl⟩
  rw [← hw2]
  have HX2 := hid (show Blk w2 w1.heap.size 59 #[.int .i64 x0, .int .i64 x1, .int .i64 x2, .bool x3, .string x4] by rw [hw2]; exact Blk.new _ _ _)
  have HZ2 := hid (show Blk w2 w.heap.size 59 #[.int .i64 0, .int .i64 0, .int .i64 0, .bool false, .string ⟨#[]⟩] by rw [hw2]; exact hB0.alloc _)
  have Hb2 := hid (show Below w.heap.size w w2 by rw [hw2]; exact hbw1.alloc hz1 _)
  have hz2 := Hb2.out.size
  have hlx := HX2.out.lt
  clear hw2 hB0 hbw1
  have d1 := HC1.out w2 Hb2.out
  have d2 := Hat.out w2 Hb2.out
  have e0 : w2.cell? ⟨w1.heap.size, 0, none⟩ = some (.int .i64 x0) := HX2.out.cell 0
  have e1 : w2.cell? ⟨w1.heap.size, 1, none⟩ = some (.int .i64 x1) := HX2.out.cell 1
  have e2 : w2.cell? ⟨w1.heap.size, 2, none⟩ = some (.int .i64 x2) := HX2.out.cell 2
  have e3 : w2.cell? ⟨w1.heap.size, 3, none⟩ = some (.bool x3) := HX2.out.cell 3
  have e4 : w2.cell? ⟨w1.heap.size, 4, none⟩ = some (.string x4) := HX2.out.cell 4
  have hg2 : g < w2.heap.size := by omega
  have hm2 : m < w2.heap.size := by omega
  go_cut [8] (fun t wx => (∃ y : SlV E, t = .slice y.A y.xs.length y.c ∧ y.xs = l2 ∧ OwnC w2.heap.size wx y) ∧ Below w2.heap.size w2 wx)
  case first =>
    go_region_law (first | (go_simp; go_at_call 58; refine (HAd.out _ (Below.manyDrew Hb2.out 1)).mono ?_; rintro e wj ⟨vj, rfl, hOj, hbj⟩; have hbj2 : Below w2.heap.size w2 wj := (Below.manyDrew (Below.refl _ _) 1).trans hbj))
    all_goals
      go_wp2_with fail
      go_meet
      obtain ⟨y, hy1, hy2, hy3⟩ := OwnC.of_ow (hOj.mono (Nat.le_refl _)) Hgood.out
      exact ⟨⟨y, hy1, hy2, hy3⟩, hbj2⟩
  case rest =>
  obtain ⟨⟨y, rfl, hyx, hy⟩, hb3⟩ := hcut
  obtain ⟨w3, rfl⟩ : ∃ w3 : World, w3 = wc := ⟨_, rfl⟩
  have HX3 := hid (HX2.out.belowS hb3)
  have HZ3 := hid (HZ2.out.belowS hb3)
  have Hb3 := hid (Below.step Hb2.out hb3 hz2)
  have hz3 := Hb3.out.size
  have d3 := HC1.out w3 Hb3.out
  have d4 := Hat.out w3 Hb3.out
  have hf4 := (HM.out w3 Hb3.out).row.frozen k
  have hyb : ∀ i, foot y.val = some i → w2.heap.size ≤ i := fun i hi => (hy.1.lt hi).1
  have Hyb := hid hyb
  have hfM := (HM.out w3 Hb3.out).put (k := k) (⟨hy.1.mono (Nat.le_trans HB.out hz2), hy.2⟩ : OwnC base w3 y) (fun i hi hv => by
    have h1 := hyb i hi
    have h2 := HP.out i (.inr (.inr (.inr (.inl hv))))
    omega) (by rw [hyx]; exact Hac.out)
  have hn1 : g ≠ w.heap.size := by omega
  have hn2 : g ≠ w1.heap.size := by omega
  have HfM := hid hfM
  have Hyx := hid hyx
  have hg3 : g < w3.heap.size := by omega
  have hm3 : m < w3.heap.size := by omega
  have HX4 := hid (HX3.out.far (p := ⟨g, k, none⟩) hn2.symm y.val)
  have HZ4 := hid (HZ3.out.far (p := ⟨g, k, none⟩) hn1.symm y.val)
  have HF4 := hid (show Fr (fun i => i = g) w (w3.setCell ⟨g, k, none⟩ y.val) from (show Fr (fun i => i = g) w w3 from Fr.ofB Hb3.out).setCell (p := ⟨g, k, none⟩) (.inl rfl) _)
  clear hb3 hfM hy hyx hyb d1 d2 e0 e1 e2 e3 e4
  go_upto_region 4 with fail
  obtain ⟨w4, hw4⟩ : ∃ W : World, W = w3.setCell ⟨g, k, none⟩ y.val := ⟨_, rfl⟩
  rw [show (Value.slice y.A y.xs.length y.c) = y.val from rfl, ← hw4]
  rw [← hw4] at HfM HX4 HZ4 HF4
  have hX4 := HX4.out
  have hZ4 := HZ4.out
  have e0 : w4.cell? ⟨w1.heap.size, 0, none⟩ = some (.int .i64 x0) := hX4.cell 0
  have e1 : w4.cell? ⟨w1.heap.size, 1, none⟩ = some (.int .i64 x1) := hX4.cell 1
  have e2 : w4.cell? ⟨w1.heap.size, 2, none⟩ = some (.int .i64 x2) := hX4.cell 2
  have e3 : w4.cell? ⟨w1.heap.size, 3, none⟩ = some (.bool x3) := hX4.cell 3
  have e4 : w4.cell? ⟨w1.heap.size, 4, none⟩ = some (.string x4) := hX4.cell 4
  have y0 : w4.cell? ⟨w.heap.size, 0, none⟩ = some (.int .i64 0) := hZ4.cell 0
  have y1 : w4.cell? ⟨w.heap.size, 1, none⟩ = some (.int .i64 0) := hZ4.cell 1
  have y2 : w4.cell? ⟨w.heap.size, 2, none⟩ = some (.int .i64 0) := hZ4.cell 2
  have y3 : w4.cell? ⟨w.heap.size, 3, none⟩ = some (.bool false) := hZ4.cell 3
  have y4 : w4.cell? ⟨w.heap.size, 4, none⟩ = some (.string ⟨#[]⟩) := hZ4.cell 4
  have f0 := hZ4.frozen 0
  have f1 := hZ4.frozen 1
  have f2 := hZ4.frozen 2
  have f3 := hZ4.frozen 3
  have f4 := hZ4.frozen 4
  have hl4 := hX4.lt
  have hl5 := hZ4.lt
  clear hw4 d3 d4 hX4 hZ4
  go_wp2_with fail
  refine bodyPost_ret (v := .agg #[.int .i64 x0, .int .i64 x1, .int .i64 x2, .bool x3, .string x4]) ?_ rfl ⟨y, rfl, Hyx.out, ?_, ?_, fun i hi => Nat.le_trans hz2 (Hyb.out i hi)⟩
  · exact results_box1 Tryz.results34 rfl (Blk.put5 HZ4.out _ _ _ _ _) Tryz.underlying59 rfl (by kernel_rfl)
  · refine HfM.out.fr (Fr.five w4 w.heap.size _ _ _ _ _) (fun i hi e => ?_)
    rcases hi.set with hi | hi
    · have := HP.out i hi; omega
    · have := Hyb.out i hi; omega
  · exact (((((HF4.out.setCell (p := ⟨w.heap.size, 0, none⟩) (.inr (Nat.le_refl _)) _).setCell (p := ⟨w.heap.size, 1, none⟩) (.inr (Nat.le_refl _)) _).setCell (p := ⟨w.heap.size, 2, none⟩) (.inr (Nat.le_refl _)) _).setCell (p := ⟨w.heap.size, 3, none⟩) (.inr (Nat.le_refl _)) _).setCell (p := ⟨w.heap.size, 4, none⟩) (.inr (Nat.le_refl _)) _)
/-- what Get, Put and Swap leave -/
def RMDo (base m b g : Nat) (v : Value) (q : List (SlV E)) (w : World) (D' : List E) (C' : List (List E)) (w' : World) : Prop :=
  ∃ v' q', RMeshO base w' m b g v' D' q' ∧ q'.map SlV.xs = C' ∧ (∀ i, RPart m b g v' q' i → RPart m b g v q i ∨ w.heap.size ≤ i) ∧ Fr (RPart m b g v q) w w'
theorem RMDo.no {w w' : World} (h : RMeshO base w m b g v D q) (hb : Below w.heap.size w w') : RMDo base m b g v q w D (q.map SlV.xs) w' :=
  ⟨v, q, h.belowS hb, rfl, fun _ h => .inl h, Fr.ofB hb⟩
/-- behind a deed of the store: what Learn leaves -/
theorem RMDo.learn {w w1 w2 : World} {v' : Value} {D' : List E} {k : Nat} {key : Int} {e : Ending} (hp : ∀ i, RPart m b g v' q i → RPart m b g v q i ∨ w.heap.size ≤ i) (hF : Fr (RPart m b g v q) w w1) (hL : RMLearn base m b g v' D' q k key w1 e w2) : RMDo base m b g v q w D' (learnC (q.map SlV.xs) k key D') w2 := by
  obtain ⟨y, -, hyx, hM, hG, hyb⟩ := hL
  refine ⟨v', q.set k y, hM, ?_, fun i hi => ?_, hF.step (hG.mono (fun i _ hi => by rw [hi]; exact .inr (.inr (.inl rfl))))⟩
  · rw [learnC, map_getD, ← hyx, List.map_set]
  · rcases hi.set with hi | hi
    · exact hp i hi
    · exact .inr (Nat.le_trans hF.size (hyb i hi))
/-- what Learn leaves, and a box of the call's own is written -/
theorem RMDo.learnB {w w1 w2 w3 : World} {k : Nat} {key : Int} {e : Ending} (hl : ∀ i, RPart m b g v q i → i < w.heap.size) (hb : Below w.heap.size w w1) (hN : w.heap.size < w1.heap.size) (hL : RMLearn base m b g v D q k key w1 e w2) (hF : Fr (fun i => i = w.heap.size) w2 w3) : RMDo base m b g v q w D (learnC (q.map SlV.xs) k key D) w3 := by
  obtain ⟨y, -, hyx, hM, hG, hyb⟩ := hL
  refine ⟨v, q.set k y, hM.fr hF (fun i hi e => ?_), ?_, fun i hi => ?_, ((show Fr (RPart m b g v q) w w1 from Fr.ofB hb).step (hG.mono (fun i _ hi => by rw [hi]; exact .inr (.inr (.inl rfl))))).trans hF (fun i hi => .inr (by rw [hi]; exact Nat.le_refl _))⟩
  · rcases hi.set with hi | hi
    · have := hl i hi; omega
    · have := hyb i hi; omega
  · rw [learnC, map_getD, ← hyx, List.map_set]
  · rcases hi.set with hi | hi
    · exact .inl hi
    · exact .inr (Nat.le_trans hb.size (hyb i hi))
/-- what is asked of Get -/
theorem askB_six (len dl : Nat) (node key fl : Int) : (askB len dl node key fl = false ∧ node < 0) ∨ (askB len dl node key fl = false ∧ ¬ node < 0 ∧ (len : Int) ≤ node) ∨ (askB len dl node key fl = false ∧ ¬ node < 0 ∧ ¬ (len : Int) ≤ node ∧ keyB key = false) ∨ (askB len dl node key fl = false ∧ ¬ node < 0 ∧ ¬ (len : Int) ≤ node ∧ keyB key = true ∧ fl < 0) ∨ (askB len dl node key fl = false ∧ ¬ node < 0 ∧ ¬ (len : Int) ≤ node ∧ keyB key = true ∧ ¬ fl < 0 ∧ (dl : Int) < fl) ∨ (askB len dl node key fl = true ∧ ¬ node < 0 ∧ ¬ (len : Int) ≤ node ∧ keyB key = true ∧ ¬ fl < 0 ∧ ¬ (dl : Int) < fl) := by
  have hn : (¬ (inM len node = true ∧ keyB key = true ∧ 0 ≤ fl ∧ fl ≤ (dl : Int))) → askB len dl node key fl = false := fun h => by rw [← Bool.not_eq_true, askB_true]; exact h
  have hi : inM len node = true → 0 ≤ node ∧ node < (len : Int) := inM_true.1
  by_cases h1 : node < 0
  · exact .inl ⟨hn (fun h => by have := hi h.1; omega), h1⟩
  by_cases h2 : (len : Int) ≤ node
  · exact .inr (.inl ⟨hn (fun h => by have := hi h.1; omega), h1, h2⟩)
  rcases h3 : keyB key with _ | _
  · exact .inr (.inr (.inl ⟨hn (fun h => by rw [h3] at h; exact absurd h.2.1 (by decide)), h1, h2, rfl⟩))
  by_cases h4 : fl < 0
  · exact .inr (.inr (.inr (.inl ⟨hn (fun h => by omega), h1, h2, rfl, h4⟩)))
  by_cases h5 : (dl : Int) < fl
  · exact .inr (.inr (.inr (.inr (.inl ⟨hn (fun h => by omega), h1, h2, rfl, h4, h5⟩))))
  · exact .inr (.inr (.inr (.inr (.inr ⟨askB_true.2 ⟨inM_true.2 ⟨by omega, by omega⟩, h3, by omega, by omega⟩, h1, h2, rfl, h4, h5⟩))))
theorem mgetR_get {D : List E} {C : List (List E)} {node key fl : Int} (ha : askB C.length D.length node key fl = true) : mgetR D C node key fl = if (rget (C.getD node.toNat []) key).2 = true ∧ fl ≤ (rget (C.getD node.toNat []) key).1.asof then (((rget (C.getD node.toNat []) key).1, true, 0), C) else ((entC key D.length (refC D key), false, 0), learnC C node.toNat key D) := by
  unfold mgetR rget
  rw [if_pos ha]
  cases lk (C.getD node.toNat []) key with
  | none => rw [if_neg (by simp)]
  | some x =>
    simp only
    by_cases hf : fl ≤ x.asof
    · rw [if_pos hf, if_pos ⟨trivial, hf⟩]
    · rw [if_neg hf, if_neg (fun h => hf h.2)]
theorem mgetR_bad {D : List E} {C : List (List E)} {node key fl : Int} (ha : askB C.length D.length node key fl = false) : mgetR D C node key fl = ((E.zero, false, 1), C) := by
  unfold mgetR
  rw [ha, if_neg (by decide)]
set_option maxHeartbeats 8000000 in
set_option maxRecDepth 100000 in
theorem rmget_any (node key fl : Int) (w : World) (hB : base ≤ w.heap.size) (h : RMeshO base w m b g v D q) :
    Calls Tryz.prog 19 #[.pointer (some ⟨m, 0, none⟩), .int .i64 node, .int .i64 key, .int .i64 fl] w fun e w' =>
      e = .returned (.tuple #[(mgetR D (q.map SlV.xs) node key fl).1.1.val, .bool (mgetR D (q.map SlV.xs) node key fl).1.2.1, .int .i64 (mgetR D (q.map SlV.xs) node key fl).1.2.2]) ∧ RMDo base m b g v q w D (mgetR D (q.map SlV.xs) node key fl).2 w' := by
  have HM := hid (fun W (hW : Below w.heap.size w W) => h.belowS hW)
  have HB := hid hB
  have Hno := hid (fun W (hW : Below w.heap.size w W) => RMDo.no h hW)
  have hl := h.lt
  have hbl := h.st.lt
  have hgl := h.row.lt
  have HL := hid (fun i (hi : RPart m b g v q i) => (h.part hi).2)
  obtain ⟨r, hv, hrx, -⟩ := h.st.form
  have hDl : r.xs.length = D.length := by rw [hrx]
  have hq6 := h.six
  have hD10 := h.deeds.len
  have hC0 := h.c0
  have hC1 := h.c1
  have hCb : w.cell? ⟨b, 0, none⟩ = some (.slice r.A D.length r.c) := by
    have := h.st.blk.cell 0
    rw [this, ← hDl, ← hv]
    rfl
  have hlen : (q.map SlV.xs).length = q.length := List.length_map ..
  have HBad := hid (mgetR_bad (D := D) (C := q.map SlV.xs) (node := node) (key := key) (fl := fl))
  have HGet := hid (mgetR_get (D := D) (C := q.map SlV.xs) (node := node) (key := key) (fl := fl))
  rw [hlen] at HBad HGet
  have H6 := hid (askB_six q.length D.length node key fl)
  obtain ⟨kb, hkb⟩ : ∃ kb, keyB key = kb := ⟨_, rfl⟩
  rw [hkb] at H6
  have HRK0 := hid (fun W => rkey_any key W)
  rw [hkb] at HRK0
  clear hkb
  generalize mgetR D (q.map SlV.xs) node key fl = R at *
  obtain ⟨⟨R0, Rb, Re⟩, RC⟩ := R
  have HAsk := hid (askB_true (len := q.length) (dl := D.length) (node := node) (key := key) (fl := fl))
  generalize askB q.length D.length node key fl = ab at *
  obtain ⟨w1, hw1⟩ : ∃ W : World, W = w.alloc (.cells #[.int .i64 0, .int .i64 0, .int .i64 0, .bool false, .string ⟨#[]⟩] 59) := ⟨_, rfl⟩
  have hb1 : Below w.heap.size w w1 := by rw [hw1]; exact (Below.refl _ _).alloc (Nat.le_refl _) _
  have hZ1 : Blk w1 w.heap.size 59 #[.int .i64 0, .int .i64 0, .int .i64 0, .bool false, .string ⟨#[]⟩] := by rw [hw1]; exact Blk.new _ _ _
  have hz1 : w1.heap.size = w.heap.size + 1 := by rw [hw1]; simp
  have c0 := (hb1.cell (p := ⟨m, 0, none⟩) hl).trans hC0
  have c1 := (hb1.cell (p := ⟨m, 1, none⟩) hl).trans hC1
  have cb := (hb1.cell (p := ⟨b, 0, none⟩) hbl).trans hCb
  have hm1 : m < w1.heap.size := by omega
  have hbl1 : b < w1.heap.size := by omega
  have Hw1 := hid hw1
  have Hb1 := hid hb1
  have HZ1 := hid hZ1
  have HRK := hid (HRK0.out w1)
  clear h hB hv hrx hw1 hb1 hZ1 hC0 hC1 hCb hDl hlen HRK0
  simp only
  go_enter Tryz.func19, Tryz.ntmps19
  go_wp2_with fail
  rw [← Hw1.out]
  refine HRK.out.mono ?_
  rintro e w2 ⟨rfl, hw2⟩
  obtain rfl : w1 = w2 := by first | exact hw2 | exact hw2.symm
  go_upto_region 2 with fail
  go_cut [46] (fun t wx => t = .bool (!ab) ∧ wx = w1)
  case first =>
    rcases H6.out with ⟨rfl, i1⟩ | ⟨rfl, i1, i2⟩ | ⟨rfl, i1, i2, rfl⟩ | ⟨rfl, i1, i2, rfl, i4⟩ | ⟨rfl, i1, i2, rfl, i4, i5⟩ | ⟨rfl, i1, i2, rfl, i4, i5⟩
    all_goals
      go_wp2_with fail
      go_meet
      exact ⟨by first | rfl | (simp; omega), rfl⟩
  case rest =>
  obtain ⟨rfl, hwc⟩ := hcut
  obtain rfl : w1 = wc := hwc.symm
  have hZ1 := HZ1.out
  cases ab with
  | false =>
    have hR := HBad.out rfl
    injection hR with hR1 hR2
    injection hR1 with hR3 hR4
    injection hR4 with hR5 hR6
    subst hR2 hR3 hR5 hR6
    have y0 : w1.cell? ⟨w.heap.size, 0, none⟩ = some (.int .i64 0) := hZ1.cell 0
    have y1 : w1.cell? ⟨w.heap.size, 1, none⟩ = some (.int .i64 0) := hZ1.cell 1
    have y2 : w1.cell? ⟨w.heap.size, 2, none⟩ = some (.int .i64 0) := hZ1.cell 2
    have y3 : w1.cell? ⟨w.heap.size, 3, none⟩ = some (.bool false) := hZ1.cell 3
    have y4 : w1.cell? ⟨w.heap.size, 4, none⟩ = some (.string ⟨#[]⟩) := hZ1.cell 4
    have f0 := hZ1.frozen 0
    have f1 := hZ1.frozen 1
    have f2 := hZ1.frozen 2
    have f3 := hZ1.frozen 3
    have f4 := hZ1.frozen 4
    have hlZ := hZ1.lt
    clear hZ1
    go_wp2_with fail
    refine bodyPost_ret (v := .tuple #[E.zero.val, .bool false, .int .i64 1]) ?_ rfl ⟨rfl, Hno.out _ ?_⟩
    · exact results_boxT Tryz.results19 rfl (Blk.put5 HZ1.out _ _ _ _ _) Tryz.underlying59 rfl (by kernel_rfl)
    · have hb1 := Hb1.out
      (repeat (first | with_reducible exact Below.refl _ _ | with_reducible assumption | (with_reducible refine Below.drew ?_) | (with_reducible refine Below.manyDrew ?_ _) | ((with_reducible refine Below.alloc ?_ ?_ _); rotate_left; (focus (first | omega | (dsimp only; omega) | (simp; done) | (simp; omega)))) | ((with_reducible refine Below.setCell ?_ ?_ _); rotate_left; (focus (first | omega | (dsimp only; omega) | (simp; done) | (simp; omega)))) | ((with_reducible refine Below.step ?_ (by assumption) ?_); rotate_left; (focus (first | omega | (dsimp only; omega) | (simp; done) | (simp; omega))))))
  | true =>
  obtain ⟨a1, a2, a3, a4⟩ := HAsk.out.1 rfl
  obtain ⟨n0, n1⟩ := inM_true.1 a1
  obtain ⟨k, rfl⟩ := Int.eq_ofNat_of_zero_le n0
  have hk : k < q.length := by omega
  have hR := HGet.out rfl
  rw [Int.toNat_natCast, map_getD, getD_get SlV.nil hk] at hR
  have hM1 := HM.out w1 Hb1.out
  have cat := hM1.at hk
  have hown := hM1.own _ (List.getElem_mem hk)
  have HLn := hid (fun W (hW : Below w.heap.size w W) => rmlearn_any k key W (Nat.le_trans HB.out hW.size) (HM.out W hW) hk a2)
  unfold RMLearn at HLn
  have HLn2 := hid (fun (w2 w3 w4 : World) (e : Ending) hb hN hL hF => RMDo.learnB (base := base) (m := m) (b := b) (g := g) (v := v) (D := D) (q := q) (w := w) (w1 := w2) (w2 := w3) (w3 := w4) (k := k) (key := key) (e := e) HL.out hb hN hL hF)
  unfold RMLearn at HLn2
  generalize learnC (q.map SlV.xs) k key D = LC at *
  generalize (addC (q.getD k SlV.nil).xs (entC key (D.length : Int) (refC D key))).1 = AC at *
  have HRg := hid (rget_any q[k] key w1 hown.es.entries)
  generalize q[k] = c at *
  generalize entC key (D.length : Int) (refC D key) = x at *
  obtain ⟨x0, x1, x2, x3, x4⟩ := x
  generalize rget c.xs key = G at *
  obtain ⟨⟨z0, z1, z2, z3, z4⟩, zb⟩ := G
  simp only [E.val] at HRg HLn hR
  obtain ⟨hb2, hhb⟩ : ∃ hb2 : Bool, hb2 = (zb && decide (fl ≤ z2)) := ⟨_, rfl⟩
  have hR2 : ((R0, Rb, Re), RC) = if hb2 = true then ((⟨z0, z1, z2, z3, z4⟩, true, 0), q.map SlV.xs) else ((⟨x0, x1, x2, x3, x4⟩, false, 0), LC) := by
    rw [hR, hhb]
    cases zb <;> simp
  have HR2 := hid hR2
  have Hhb := hid hhb
  have hkl : (k : Int) < (q.length : Int) := by omega
  clear hR hR2 hM1 hown a1 a2 a3 a4 n0 n1 hhb
  go_wp2_with fail
  refine HRg.out.mono ?_
  rintro e w2 ⟨rfl, hbz⟩
  have hb2w := Below.step Hb1.out hbz Hb1.out.size
  have hZ2 := hZ1.belowS hbz
  clear hbz HRg hZ1
  go_upto_region 5 with fail
  obtain ⟨w3, hw3⟩ : ∃ W : World, W = w2.alloc (.cells #[.int .i64 z0, .int .i64 z1, .int .i64 z2, .bool z3, .string z4] 59) := ⟨_, rfl⟩
  rw [← hw3]
  have hX3 : Blk w3 w2.heap.size 59 #[.int .i64 z0, .int .i64 z1, .int .i64 z2, .bool z3, .string z4] := by rw [hw3]; exact Blk.new _ _ _
  have hZ3 : Blk w3 w.heap.size 59 #[.int .i64 0, .int .i64 0, .int .i64 0, .bool false, .string ⟨#[]⟩] := by rw [hw3]; exact hZ2.alloc _
  have hb3 : Below w.heap.size w w3 := by rw [hw3]; exact hb2w.alloc hb2w.size _
  have hz3 := hb3.size
  have hz3' := hZ3.lt
  have k0 : w3.cell? ⟨w2.heap.size, 0, none⟩ = some (.int .i64 z0) := hX3.cell 0
  have k1 : w3.cell? ⟨w2.heap.size, 1, none⟩ = some (.int .i64 z1) := hX3.cell 1
  have k2 : w3.cell? ⟨w2.heap.size, 2, none⟩ = some (.int .i64 z2) := hX3.cell 2
  have k3 : w3.cell? ⟨w2.heap.size, 3, none⟩ = some (.bool z3) := hX3.cell 3
  have k4 : w3.cell? ⟨w2.heap.size, 4, none⟩ = some (.string z4) := hX3.cell 4
  have hlX := hX3.lt
  have HZ3 := hid hZ3
  have Hb3 := hid hb3
  clear hw3 hX3 hZ3 hZ2 hb2w hb3 cat c0 c1 cb
  go_cut [66] (fun t wx => t = .bool hb2 ∧ wx = w3)
  case first =>
    cases zb with
    | false =>
      go_wp2_with fail
      go_meet
      exact ⟨by rw [Hhb.out]; rfl, rfl⟩
    | true =>
      by_cases hf : fl ≤ z2
      · go_wp2_with fail
        go_meet
        exact ⟨by rw [Hhb.out, decide_eq_true hf]; rfl, rfl⟩
      · go_wp2_with fail
        go_meet
        exact ⟨by rw [Hhb.out, decide_eq_false (show ¬ fl ≤ z2 by omega)]; rfl, rfl⟩
  case rest =>
  obtain ⟨rfl, hwc⟩ := hcut
  obtain rfl : w3 = wc := hwc.symm
  cases hb2 with
  | true =>
    have hR := HR2.out
    rw [if_pos rfl] at hR
    injection hR with hR1 hR2
    injection hR1 with hR3 hR4
    injection hR4 with hR5 hR6
    subst hR2 hR3 hR5 hR6
    have hZ3 := HZ3.out
    have y0 : w3.cell? ⟨w.heap.size, 0, none⟩ = some (.int .i64 0) := hZ3.cell 0
    have y1 : w3.cell? ⟨w.heap.size, 1, none⟩ = some (.int .i64 0) := hZ3.cell 1
    have y2 : w3.cell? ⟨w.heap.size, 2, none⟩ = some (.int .i64 0) := hZ3.cell 2
    have y3 : w3.cell? ⟨w.heap.size, 3, none⟩ = some (.bool false) := hZ3.cell 3
    have y4 : w3.cell? ⟨w.heap.size, 4, none⟩ = some (.string ⟨#[]⟩) := hZ3.cell 4
    have f0 := hZ3.frozen 0
    have f1 := hZ3.frozen 1
    have f2 := hZ3.frozen 2
    have f3 := hZ3.frozen 3
    have f4 := hZ3.frozen 4
    clear hZ3
    go_wp2_with fail
    refine bodyPost_ret (v := .tuple #[.agg #[.int .i64 z0, .int .i64 z1, .int .i64 z2, .bool z3, .string z4], .bool true, .int .i64 0]) ?_ rfl ⟨rfl, Hno.out _ ?_⟩
    · exact results_boxT Tryz.results19 rfl (Blk.put5 HZ3.out _ _ _ _ _) Tryz.underlying59 rfl (by kernel_rfl)
    · have hb3 := Hb3.out
      (repeat (first | with_reducible exact Below.refl _ _ | with_reducible assumption | (with_reducible refine Below.drew ?_) | (with_reducible refine Below.manyDrew ?_ _) | ((with_reducible refine Below.alloc ?_ ?_ _); rotate_left; (focus (first | omega | (dsimp only; omega) | (simp; done) | (simp; omega)))) | ((with_reducible refine Below.setCell ?_ ?_ _); rotate_left; (focus (first | omega | (dsimp only; omega) | (simp; done) | (simp; omega)))) | ((with_reducible refine Below.step ?_ (by assumption) ?_); rotate_left; (focus (first | omega | (dsimp only; omega) | (simp; done) | (simp; omega))))))
  | false =>
    have hR := HR2.out
    rw [if_neg (by decide)] at hR
    injection hR with hR1 hR2
    injection hR1 with hR3 hR4
    injection hR4 with hR5 hR6
    subst hR2 hR3 hR5 hR6
    have HLn3 := hid (HLn.out w3 Hb3.out)
    clear k0 k1 k2 k3 k4
    go_wp2_with fail
    refine HLn3.out.mono ?_
    rintro e w4 ⟨y, rfl, hyx, hM4, hG4, hyb⟩
    have hZ4 : Blk w4 w.heap.size 59 #[.int .i64 0, .int .i64 0, .int .i64 0, .bool false, .string ⟨#[]⟩] := HZ3.out.fr hG4 (by omega)
    have y0 : w4.cell? ⟨w.heap.size, 0, none⟩ = some (.int .i64 0) := hZ4.cell 0
    have y1 : w4.cell? ⟨w.heap.size, 1, none⟩ = some (.int .i64 0) := hZ4.cell 1
    have y2 : w4.cell? ⟨w.heap.size, 2, none⟩ = some (.int .i64 0) := hZ4.cell 2
    have y3 : w4.cell? ⟨w.heap.size, 3, none⟩ = some (.bool false) := hZ4.cell 3
    have y4 : w4.cell? ⟨w.heap.size, 4, none⟩ = some (.string ⟨#[]⟩) := hZ4.cell 4
    have f0 := hZ4.frozen 0
    have f1 := hZ4.frozen 1
    have f2 := hZ4.frozen 2
    have f3 := hZ4.frozen 3
    have f4 := hZ4.frozen 4
    have hl4 := hZ4.lt
    have HZ4 := hid hZ4
    have HEnd := hid (fun (W : World) (hF : Fr (fun i => i = w.heap.size) w4 W) => HLn2.out w3 w4 W _ Hb3.out hz3' ⟨y, rfl, hyx, hM4, hG4, hyb⟩ hF)
    clear hZ4 hyx hM4 hG4 hyb HLn3
    go_wp2_with fail
    refine bodyPost_ret (v := .tuple #[.agg #[.int .i64 x0, .int .i64 x1, .int .i64 x2, .bool x3, .string x4], .bool false, .int .i64 0]) ?_ rfl ⟨rfl, HEnd.out _ (Fr.five w4 w.heap.size _ _ _ _ _)⟩
    exact results_boxT Tryz.results19 rfl (Blk.put5 HZ4.out _ _ _ _ _) Tryz.underlying59 rfl (by kernel_rfl)
theorem rdeeds {r : (Int × Int) × List E} {key : Int} (hd : Deeds D) (h : DeedR D key r) : Deeds r.2 ∧ (∃ x, r.2 = D ++ x) ∧ (r.1.2 = 0 → keyB key = true) := by
  rcases h with ⟨h1, h2, h3⟩ | ⟨h1, h2, h3, h4⟩
  · rw [h3]
    exact ⟨hd, ⟨[], by simp⟩, fun h => absurd h h1⟩
  · exact ⟨h4, h3, fun _ => h2⟩
set_option maxHeartbeats 8000000 in
set_option maxRecDepth 100000 in
theorem rmput_any (node key : Int) (t : ByteArray) (ht : t.size ≤ maxLen) (w : World) (hB : base ≤ w.heap.size) (h : RMeshO base w m b g v D q) :
    Calls Tryz.prog 17 #[.pointer (some ⟨m, 0, none⟩), .int .i64 node, .int .i64 key, .string t, .bool false] w fun e w' =>
      e = .returned (.tuple #[.int .i64 (mdoR q.length D node (rput D key t)).1.1, .int .i64 (mdoR q.length D node (rput D key t)).1.2]) ∧ RMDo base m b g v q w (mdoR q.length D node (rput D key t)).2 (if (mdoR q.length D node (rput D key t)).1.2 = 0 then learnC (q.map SlV.xs) node.toNat key (mdoR q.length D node (rput D key t)).2 else q.map SlV.xs) w' := by
  have hl := h.lt
  have hq6 := h.six
  have c0 := h.c0
  have c1 := h.c1
  rcases hin : inM q.length node with _ | _
  · have Hno := hid (fun W (hW : Below w.heap.size w W) => RMDo.no h hW)
    rw [show mdoR q.length D node (rput D key t) = ((0, 1), D) from by rw [mdoR, hin, if_neg (by decide)]]
    simp only
    rw [if_neg (by decide)]
    rcases inM_false.1 hin with hi | hi
    · clear h hin
      go_enter Tryz.func17, Tryz.ntmps17
      go_wp2_with fail
      go_ret2
      exact ⟨rfl, Hno.out _ (Below.refl _ _)⟩
    · have hi0 : ¬ node < 0 := by omega
      clear h hin
      go_enter Tryz.func17, Tryz.ntmps17
      go_wp2_with fail
      go_ret2
      exact ⟨rfl, Hno.out _ (Below.refl _ _)⟩
  obtain ⟨n0, n1⟩ := inM_true.1 hin
  obtain ⟨k, rfl⟩ := Int.eq_ofNat_of_zero_le n0
  have hk : k < q.length := by omega
  rw [show mdoR q.length D (k : Int) (rput D key t) = rput D key t from by rw [mdoR, hin, if_pos rfl]]
  have HS := hid (fun W (hW : Below w.heap.size w W) => rput_any base b key t ht v D W (h.st.belowS hW))
  obtain ⟨hd1, hd2, hd3⟩ := rdeeds h.deeds (rput_deed h.deeds key t)
  generalize rput D key t = RR at *
  obtain ⟨⟨r1, r2⟩, D2⟩ := RR
  simp only at hd1 hd2 hd3 ⊢
  rw [Int.toNat_natCast]
  generalize hCC : (if r2 = 0 then learnC (q.map SlV.xs) k key D2 else q.map SlV.xs) = CC
  have HCC := hid hCC
  have Hd3 := hid hd3
  have HM := hid (fun W v' (hR : RStoreO base W b v' D2) (hF : Fr (fun i => i = b ∨ some i = foot v) w W) hf => h.deed hR hF hf hd1 hd2)
  have Hk := hid hk
  have HB := hid hB
  have hkl : (k : Int) < (q.length : Int) := by omega
  have hk0 : ¬ (k : Int) < 0 := by omega
  unfold RRes at HS
  have HSw := hid (HS.out w (Below.refl _ _))
  clear h hin n0 n1 hd1 hd2 hd3 hCC hB HS hk
  go_enter Tryz.func17, Tryz.ntmps17
  go_wp2_with fail
  refine HSw.out.mono ?_
  rintro e w1 ⟨v', rfl, hR1, hF1, hf1⟩
  have hM1 := HM.out w1 v' hR1 hF1 hf1
  have hp : ∀ i, RPart m b g v' q i → RPart m b g v q i ∨ w.heap.size ≤ i := fun i hi => by
    rcases hi with hi | hi | hi | hi | hi
    · exact .inl (.inl hi)
    · exact .inl (.inr (.inl hi))
    · exact .inl (.inr (.inr (.inl hi)))
    · rcases hf1 with hf | ⟨x, hf, hx⟩
      · exact .inl (.inr (.inr (.inr (.inl (by rw [← hf]; exact hi)))))
      · rw [hf] at hi
        cases hi
        exact .inr hx
    · exact .inl (.inr (.inr (.inr (.inr hi))))
  have hF : Fr (RPart m b g v q) w w1 := hF1.mono (fun i _ hi => by
    rcases hi with hi | hi
    · exact .inr (.inl hi)
    · exact .inr (.inr (.inr (.inl hi.symm))))
  have Hp := hid hp
  have HF := hid hF
  simp only
  by_cases h0 : r2 = 0
  · have HL := hid (rmlearn_any k key w1 (Nat.le_trans HB.out hF.size) hM1 Hk.out (Hd3.out h0))
    have HL2 := hid (fun w2 e hL => RMDo.learn (base := base) (k := k) (key := key) (e := e) (D' := D2) (w2 := w2) Hp.out HF.out hL)
    have hC := HCC.out
    rw [if_pos h0] at hC
    rw [hC] at HL2
    have hb0 : (r2 == 0) = true := by rw [beq_iff_eq]; exact h0
    unfold RMLearn at HL HL2
    clear hR1 hF1 hf1 hM1 hp hF HSw h0 hC
    go_wp2_with fail
    refine HL.out.mono ?_
    intro e w2 hL
    have HR := hid (HL2.out w2 e hL)
    obtain ⟨y, rfl, -⟩ := hL
    unfold E.val
    go_wp2_with fail
    go_ret2
    exact ⟨rfl, HR.out⟩
  · have hb0 : (r2 == 0) = false := by rw [beq_eq_false_iff_ne]; exact h0
    have HR := hid (show RMDo base m b g v q w D2 CC w1 from ⟨v', q, hM1, by rw [← HCC.out, if_neg h0], hp, hF⟩)
    clear hR1 hF1 hf1 hM1 hp hF HSw h0
    go_wp2_with fail
    go_ret2
    exact ⟨rfl, HR.out⟩
set_option maxHeartbeats 8000000 in
set_option maxRecDepth 100000 in
theorem rmdel_any (node key : Int) (t : ByteArray) (_ht : t.size ≤ maxLen) (w : World) (hB : base ≤ w.heap.size) (h : RMeshO base w m b g v D q) :
    Calls Tryz.prog 17 #[.pointer (some ⟨m, 0, none⟩), .int .i64 node, .int .i64 key, .string t, .bool true] w fun e w' =>
      e = .returned (.tuple #[.int .i64 (mdoR q.length D node (rdel D key)).1.1, .int .i64 (mdoR q.length D node (rdel D key)).1.2]) ∧ RMDo base m b g v q w (mdoR q.length D node (rdel D key)).2 (if (mdoR q.length D node (rdel D key)).1.2 = 0 then learnC (q.map SlV.xs) node.toNat key (mdoR q.length D node (rdel D key)).2 else q.map SlV.xs) w' := by
  have hl := h.lt
  have hq6 := h.six
  have c0 := h.c0
  have c1 := h.c1
  rcases hin : inM q.length node with _ | _
  · have Hno := hid (fun W (hW : Below w.heap.size w W) => RMDo.no h hW)
    rw [show mdoR q.length D node (rdel D key) = ((0, 1), D) from by rw [mdoR, hin, if_neg (by decide)]]
    simp only
    rw [if_neg (by decide)]
    rcases inM_false.1 hin with hi | hi
    · clear h hin
      go_enter Tryz.func17, Tryz.ntmps17
      go_wp2_with fail
      go_ret2
      exact ⟨rfl, Hno.out _ (Below.refl _ _)⟩
    · have hi0 : ¬ node < 0 := by omega
      clear h hin
      go_enter Tryz.func17, Tryz.ntmps17
      go_wp2_with fail
      go_ret2
      exact ⟨rfl, Hno.out _ (Below.refl _ _)⟩
  obtain ⟨n0, n1⟩ := inM_true.1 hin
  obtain ⟨k, rfl⟩ := Int.eq_ofNat_of_zero_le n0
  have hk : k < q.length := by omega
  rw [show mdoR q.length D (k : Int) (rdel D key) = rdel D key from by rw [mdoR, hin, if_pos rfl]]
  have HS := hid (fun W (hW : Below w.heap.size w W) => rdel_any base b key v D W (h.st.belowS hW))
  obtain ⟨hd1, hd2, hd3⟩ := rdeeds h.deeds (rdel_deed h.deeds key)
  generalize rdel D key = RR at *
  obtain ⟨⟨r1, r2⟩, D2⟩ := RR
  simp only at hd1 hd2 hd3 ⊢
  rw [Int.toNat_natCast]
  generalize hCC : (if r2 = 0 then learnC (q.map SlV.xs) k key D2 else q.map SlV.xs) = CC
  have HCC := hid hCC
  have Hd3 := hid hd3
  have HM := hid (fun W v' (hR : RStoreO base W b v' D2) (hF : Fr (fun i => i = b ∨ some i = foot v) w W) hf => h.deed hR hF hf hd1 hd2)
  have Hk := hid hk
  have HB := hid hB
  have hkl : (k : Int) < (q.length : Int) := by omega
  have hk0 : ¬ (k : Int) < 0 := by omega
  unfold RRes at HS
  have HSw := hid (HS.out w (Below.refl _ _))
  clear h hin n0 n1 hd1 hd2 hd3 hCC hB HS hk
  go_enter Tryz.func17, Tryz.ntmps17
  go_wp2_with fail
  refine HSw.out.mono ?_
  rintro e w1 ⟨v', rfl, hR1, hF1, hf1⟩
  have hM1 := HM.out w1 v' hR1 hF1 hf1
  have hp : ∀ i, RPart m b g v' q i → RPart m b g v q i ∨ w.heap.size ≤ i := fun i hi => by
    rcases hi with hi | hi | hi | hi | hi
    · exact .inl (.inl hi)
    · exact .inl (.inr (.inl hi))
    · exact .inl (.inr (.inr (.inl hi)))
    · rcases hf1 with hf | ⟨x, hf, hx⟩
      · exact .inl (.inr (.inr (.inr (.inl (by rw [← hf]; exact hi)))))
      · rw [hf] at hi
        cases hi
        exact .inr hx
    · exact .inl (.inr (.inr (.inr (.inr hi))))
  have hF : Fr (RPart m b g v q) w w1 := hF1.mono (fun i _ hi => by
    rcases hi with hi | hi
    · exact .inr (.inl hi)
    · exact .inr (.inr (.inr (.inl hi.symm))))
  have Hp := hid hp
  have HF := hid hF
  simp only
  by_cases h0 : r2 = 0
  · have HL := hid (rmlearn_any k key w1 (Nat.le_trans HB.out hF.size) hM1 Hk.out (Hd3.out h0))
    have HL2 := hid (fun w2 e hL => RMDo.learn (base := base) (k := k) (key := key) (e := e) (D' := D2) (w2 := w2) Hp.out HF.out hL)
    have hC := HCC.out
    rw [if_pos h0] at hC
    rw [hC] at HL2
    have hb0 : (r2 == 0) = true := by rw [beq_iff_eq]; exact h0
    unfold RMLearn at HL HL2
    clear hR1 hF1 hf1 hM1 hp hF HSw h0 hC
    go_wp2_with fail
    refine HL.out.mono ?_
    intro e w2 hL
    have HR := hid (HL2.out w2 e hL)
    obtain ⟨y, rfl, -⟩ := hL
    unfold E.val
    go_wp2_with fail
    go_ret2
    exact ⟨rfl, HR.out⟩
  · have hb0 : (r2 == 0) = false := by rw [beq_eq_false_iff_ne]; exact h0
    have HR := hid (show RMDo base m b g v q w D2 CC w1 from ⟨v', q, hM1, by rw [← HCC.out, if_neg h0], hp, hF⟩)
    clear hR1 hF1 hf1 hM1 hp hF HSw h0
    go_wp2_with fail
    go_ret2
    exact ⟨rfl, HR.out⟩
set_option maxHeartbeats 8000000 in
set_option maxRecDepth 100000 in
theorem rmswap_any (x y : Int) (w : World) (hB : base ≤ w.heap.size) (h : RMeshO base w m b g v D q) :
    Calls Tryz.prog 20 #[.pointer (some ⟨m, 0, none⟩), .int .i64 x, .int .i64 y] w fun e w' =>
      e = .returned (.int .i64 (mswapR (q.map SlV.xs) x y).1) ∧ RMDo base m b g v q w D (mswapR (q.map SlV.xs) x y).2 w' := by
  have hl := h.lt
  have hq6 := h.six
  have c0 := h.c0
  have c1 := h.c1
  have Hno := hid (fun W (hW : Below w.heap.size w W) => RMDo.no h hW)
  have hlen : (q.map SlV.xs).length = q.length := List.length_map ..
  unfold mswapR
  rw [hlen]
  by_cases hn : inM q.length x = true ∧ inM q.length y = true
  case neg =>
    rw [if_neg hn]
    have hw : x < 0 ∨ (¬ x < 0 ∧ (q.length : Int) ≤ x) ∨ (¬ x < 0 ∧ ¬ (q.length : Int) ≤ x ∧ y < 0) ∨ (¬ x < 0 ∧ ¬ (q.length : Int) ≤ x ∧ ¬ y < 0 ∧ (q.length : Int) ≤ y) := by
      rw [inM_true, inM_true] at hn
      omega
    clear h hn hB hlen
    simp only
    rcases hw with i1 | ⟨i1, i2⟩ | ⟨i1, i2, i3⟩ | ⟨i1, i2, i3, i4⟩
    all_goals
      go_enter Tryz.func20, Tryz.ntmps20
      go_wp2_with fail
      go_ret
      exact ⟨rfl, Hno.out _ (Below.refl _ _)⟩
  case pos =>
  rw [if_pos hn]
  obtain ⟨⟨a0, a1⟩, ⟨b0, b1⟩⟩ := (⟨inM_true.1 hn.1, inM_true.1 hn.2⟩ : _ ∧ _)
  obtain ⟨a, rfl⟩ := Int.eq_ofNat_of_zero_le a0
  obtain ⟨d, rfl⟩ := Int.eq_ofNat_of_zero_le b0
  have ha : a < q.length := by omega
  have hd : d < q.length := by omega
  have i1 : ¬ (a : Int) < 0 := by omega
  have i2 : ¬ (q.length : Int) ≤ (a : Int) := by omega
  have i3 : ¬ (d : Int) < 0 := by omega
  have i4 : ¬ (q.length : Int) ≤ (d : Int) := by omega
  by_cases hab : (a : Int) = (d : Int)
  case pos =>
    rw [if_pos hab]
    have hb0 : ((a : Int) == (d : Int)) = true := by rw [beq_iff_eq]; exact hab
    simp only
    clear h hn hB hlen hab a0 a1 b0 b1
    go_enter Tryz.func20, Tryz.ntmps20
    go_wp2_with fail
    go_ret
    exact ⟨rfl, Hno.out _ (Below.refl _ _)⟩
  case neg =>
  rw [if_neg hab]
  have hca := h.cac _ (List.getElem_mem ha)
  have hcb := h.cac _ (List.getElem_mem hd)
  obtain ⟨-, p1, p2⟩ := pairR_true h.deeds hca hcb
  obtain ⟨x0, -⟩ := CacheD.all h.deeds hca (m := someL q[d].xs (partT q[a].xs q[d].xs 1).1) (fun e he => hcb.2 e (List.mem_filter.1 he).1)
  obtain ⟨y0, -⟩ := CacheD.all h.deeds hcb (m := someL q[a].xs (partT q[a].xs q[d].xs 1).1) (fun e he => hca.2 e (List.mem_filter.1 he).1)
  have hoa := h.own _ (List.getElem_mem ha)
  have hob := h.own _ (List.getElem_mem hd)
  have HP := hid (fun W (hW : Below w.heap.size w W) => rpair_at base q[a] q[d] W (Nat.le_trans hB hW.size) (hoa.belowS hW) (hob.belowS hW) hca.1 hcb.1 x0 y0)
  unfold RPairAt at HP
  have HM := hid (fun W (hW : Below w.heap.size w W) => h.belowS hW)
  have hka := h.at ha
  have hkb := h.at hd
  have hg := h.row.lt
  have HL := hid (fun i (hi : RPart m b g v q i) => (h.part hi).2)
  have Hoa := hid (h.off _ (List.getElem_mem ha))
  have Hob := hid (h.off _ (List.getElem_mem hd))
  have Hpa := hid (show ∀ i, foot q[a].val = some i → RPart m b g v q i from fun i hi => .inr (.inr (.inr (.inr ⟨_, List.getElem_mem ha, hi⟩))))
  have Hpb := hid (show ∀ i, foot q[d].val = some i → RPart m b g v q i from fun i hi => .inr (.inr (.inr (.inr ⟨_, List.getElem_mem hd, hi⟩))))
  have hea : (q.map SlV.xs).getD a [] = q[a].xs := by rw [map_getD, getD_get SlV.nil ha]
  have heb : (q.map SlV.xs).getD d [] = q[d].xs := by rw [map_getD, getD_get SlV.nil hd]
  simp only [Int.toNat_natCast]
  rw [hea, heb]
  have P1 := hid p1
  have P2 := hid p2
  generalize q[a] = xa at *
  generalize q[d] = xb at *
  generalize (pairR xa.xs xb.xs).1 = R1 at *
  generalize (pairR xa.xs xb.xs).2.1 = R2 at *
  have hne : ((a : Int) == (d : Int)) = false := by rw [beq_eq_false_iff_ne]; exact hab
  have hadn : a ≠ d := by omega
  have hdan : d ≠ a := by omega
  have hal : (a : Int) < (q.length : Int) := by omega
  have hdl : (d : Int) < (q.length : Int) := by omega
  clear hca hcb hoa hob h p1 p2 x0 y0 hn hab a0 a1 b0 b1 hea heb hlen hB Hno
  go_enter Tryz.func20, Tryz.ntmps20
  go_wp2_with fail
  go_upto_region 5 with fail
  go_cut [7, 8, 9] (fun p r er wx => er = .int .i64 0 ∧ ∃ u t : SlV E, p = .slice u.A u.xs.length u.c ∧ r = .slice t.A t.xs.length t.c ∧ u.xs = R1 ∧ t.xs = R2 ∧ OwnC base wx u ∧ OwnC base wx t ∧ NearE w xa u ∧ NearE w xb t ∧ Below w.heap.size w wx)
  case first =>
    have j1 := c1
    have j2 := hka
    have j3 := hkb
    have hgr := hl
    have hgg := hg
    go_region_held3 (fun W => Below w.heap.size w W ∧ W.cell? ⟨m, 1, none⟩ = some (.slice (some ⟨g, 0, none⟩) q.length q.length) ∧ W.cell? ⟨g, a, none⟩ = some (.slice xa.A xa.xs.length xa.c) ∧ W.cell? ⟨g, d, none⟩ = some (.slice xb.A xb.xs.length xb.c)) (first | with_reducible exact keep3_below hgr hgg hgg j1 j2 j3 (Below.refl _ _).drew | (go_split_ands; with_reducible exact keep3_below hgr hgg hgg j1 j2 j3 (by assumption)) | (go_split_ands; exact keep3_below hgr hgg hgg j1 j2 j3 (by (repeat (first | with_reducible exact Below.refl _ _ | with_reducible assumption | (with_reducible refine Below.drew ?_) | (with_reducible refine Below.manyDrew ?_ _) | ((with_reducible refine Below.alloc ?_ ?_ _); rotate_left; (focus (first | omega | (dsimp only; omega) | (simp; done) | (simp; omega)))) | ((with_reducible refine Below.setCell ?_ ?_ _); rotate_left; (focus (first | omega | (dsimp only; omega) | (simp; done) | (simp; omega)))) | ((with_reducible refine Below.step ?_ (by assumption) ?_); rotate_left; (focus (first | omega | (dsimp only; omega) | (simp; done) | (simp; omega))))))))) (first | (go_at_call 37; go_split_ands; refine (HP.out _ ?_).mono ?_; (assumption); rintro e wj ⟨u, t, rfl, hu, ht, hou, hot, hnu, hnt, hbj⟩; have HX := hid (And.intro hu (And.intro ht (And.intro hou hot))); have HN := hid (And.intro (hnu.up (Below.size ‹Below w.heap.size w _›)) (hnt.up (Below.size ‹Below w.heap.size w _›))); clear hu ht hou hot hnu hnt; have hb2j := bstep ‹Below w.heap.size w _› hbj))
    all_goals
      go_wp2_with fail
      go_meet
      exact ⟨rfl, u, t, rfl, rfl, HX.out.1, HX.out.2.1, HX.out.2.2.1, HX.out.2.2.2, HN.out.1, HN.out.2, by assumption⟩
  case rest =>
  obtain ⟨rfl, u, t, rfl, rfl, hu, ht, hou, hot, hnu, hnt, hb3⟩ := hcut
  obtain ⟨w3, rfl⟩ : ∃ w3 : World, w3 = wc := ⟨_, rfl⟩
  have hM3 := HM.out w3 hb3
  have hcu : CacheD D u.xs := by rw [hu]; exact P1.out
  have hct : CacheD D t.xs := by rw [ht]; exact P2.out
  have hfu : ∀ i, foot u.val = some i → foot v ≠ some i := fun i hi e => by
    rcases hnu i hi with h1 | h1
    · exact Hoa.out i h1 e
    · have := HL.out i (.inr (.inr (.inr (.inl e)))); omega
  have hft : ∀ i, foot t.val = some i → foot v ≠ some i := fun i hi e => by
    rcases hnt i hi with h1 | h1
    · exact Hob.out i h1 e
    · have := HL.out i (.inr (.inr (.inr (.inl e)))); omega
  have hFg : ∀ (k : Nat) (z : Value), Fr (fun i => i = g) w3 (w3.setCell ⟨g, k, none⟩ z) := fun k z => (Fr.refl (fun i => i = g) w3).setCell (p := ⟨g, k, none⟩) (.inl rfl) _
  have hM4 : RMeshO base ((w3.setCell ⟨g, a, none⟩ u.val).setCell ⟨g, d, none⟩ t.val) m b g v D ((q.set a u).set d t) :=
    (hM3.put (k := a) hou hfu hcu).put (k := d) ⟨hot.1.fr (hFg a _) (fun i hi => hot.1.apartB hM3.row tyR1 hi), hot.2⟩ hft hct
  have hR : RMDo base m b g v q w D (((q.map SlV.xs).set a R1).set d R2) ((w3.setCell ⟨g, a, none⟩ u.val).setCell ⟨g, d, none⟩ t.val) := by
    refine ⟨v, (q.set a u).set d t, hM4, by rw [List.map_set, List.map_set, hu, ht], fun i hi => ?_, ?_⟩
    · rcases hi.set with hi | hi
      · rcases hi.set with hi | hi
        · exact .inl hi
        · exact (hnu i hi).imp (fun h => Hpa.out i h) (fun h => h)
      · exact (hnt i hi).imp (fun h => Hpb.out i h) (fun h => h)
    · exact (((show Fr (RPart m b g v q) w w3 from Fr.ofB hb3).setCell (p := ⟨g, a, none⟩) (.inl (.inr (.inr (.inl rfl)))) _).setCell (p := ⟨g, d, none⟩) (.inl (.inr (.inr (.inl rfl)))) _)
  have HR := hid hR
  have d1 := hM3.c1
  have d2 := hM3.row.frozen a
  have d3 := hM3.row.frozen d
  have hmg := hM3.mg
  have hl3 := hM3.lt
  have hg3 := hM3.row.lt
  have ka := hM3.at ha
  have kb := hM3.at hd
  clear hM3 hou hot hcu hct hfu hft hFg hM4 hR hu ht hnu hnt hb3 c1 hka hkb
  go_wp2_with fail
  go_ret
  exact ⟨rfl, HR.out⟩
end
/-! ### by what it holds -/
/-- what the reference may touch -/
def RTouch (base : Nat) (A : Nat → Prop) (i : Nat) : Prop := A i ∧ base ≤ i
section
variable {base m : Nat} {D : List E} {C : List (List E)} {A : Nat → Prop}
theorem RMDo.w {b g : Nat} {v : Value} {q : List (SlV E)} {w w' : World} {D' : List E} {C' : List (List E)} (h : RMDo base m b g v q w D' C' w') (h1 : RMeshO base w m b g v D q) (hA : ∀ i, RPart m b g v q i → A i) : RMeshW base w' m D' C' (AOr A w w') ∧ Fr (RTouch base A) w w' := by
  obtain ⟨v', q', j1, j2, j3, j4⟩ := h
  exact ⟨⟨b, g, v', q', j1, j2, fun i hi => (j3 i hi).imp (hA i) (fun h => ⟨h, (j1.part hi).2⟩)⟩, j4.mono (fun i _ hi => ⟨hA i hi, (h1.part hi).1⟩)⟩
theorem rmgetW (node key fl : Int) (w : World) (h : RMeshW base w m D C A) (hB : base ≤ w.heap.size) :
    Calls Tryz.prog 19 #[.pointer (some ⟨m, 0, none⟩), .int .i64 node, .int .i64 key, .int .i64 fl] w fun e w' =>
      e = .returned (.tuple #[(mgetR D C node key fl).1.1.val, .bool (mgetR D C node key fl).1.2.1, .int .i64 (mgetR D C node key fl).1.2.2]) ∧ RMeshW base w' m D (mgetR D C node key fl).2 (AOr A w w') ∧ Fr (RTouch base A) w w' := by
  obtain ⟨b, g, v, q, h1, rfl, h3⟩ := h
  refine (rmget_any node key fl w hB h1).mono ?_
  rintro e w' ⟨he, hR⟩
  exact ⟨he, hR.w h1 h3⟩
theorem rmputW (node key : Int) (t : ByteArray) (ht : t.size ≤ maxLen) (w : World) (h : RMeshW base w m D C A) (hB : base ≤ w.heap.size) :
    Calls Tryz.prog 17 #[.pointer (some ⟨m, 0, none⟩), .int .i64 node, .int .i64 key, .string t, .bool false] w fun e w' =>
      e = .returned (.tuple #[.int .i64 (mdoR C.length D node (rput D key t)).1.1, .int .i64 (mdoR C.length D node (rput D key t)).1.2]) ∧ RMeshW base w' m (mdoR C.length D node (rput D key t)).2 (if (mdoR C.length D node (rput D key t)).1.2 = 0 then learnC C node.toNat key (mdoR C.length D node (rput D key t)).2 else C) (AOr A w w') ∧ Fr (RTouch base A) w w' := by
  obtain ⟨b, g, v, q, h1, rfl, h3⟩ := h
  rw [show (q.map SlV.xs).length = q.length from List.length_map ..]
  refine (rmput_any node key t ht w hB h1).mono ?_
  rintro e w' ⟨he, hR⟩
  exact ⟨he, hR.w h1 h3⟩
theorem rmdelW (node key : Int) (t : ByteArray) (ht : t.size ≤ maxLen) (w : World) (h : RMeshW base w m D C A) (hB : base ≤ w.heap.size) :
    Calls Tryz.prog 17 #[.pointer (some ⟨m, 0, none⟩), .int .i64 node, .int .i64 key, .string t, .bool true] w fun e w' =>
      e = .returned (.tuple #[.int .i64 (mdoR C.length D node (rdel D key)).1.1, .int .i64 (mdoR C.length D node (rdel D key)).1.2]) ∧ RMeshW base w' m (mdoR C.length D node (rdel D key)).2 (if (mdoR C.length D node (rdel D key)).1.2 = 0 then learnC C node.toNat key (mdoR C.length D node (rdel D key)).2 else C) (AOr A w w') ∧ Fr (RTouch base A) w w' := by
  obtain ⟨b, g, v, q, h1, rfl, h3⟩ := h
  rw [show (q.map SlV.xs).length = q.length from List.length_map ..]
  refine (rmdel_any node key t ht w hB h1).mono ?_
  rintro e w' ⟨he, hR⟩
  exact ⟨he, hR.w h1 h3⟩
theorem rmswapW (x y : Int) (w : World) (h : RMeshW base w m D C A) (hB : base ≤ w.heap.size) :
    Calls Tryz.prog 20 #[.pointer (some ⟨m, 0, none⟩), .int .i64 x, .int .i64 y] w fun e w' =>
      e = .returned (.int .i64 (mswapR C x y).1) ∧ RMeshW base w' m D (mswapR C x y).2 (AOr A w w') ∧ Fr (RTouch base A) w w' := by
  obtain ⟨b, g, v, q, h1, rfl, h3⟩ := h
  refine (rmswap_any x y w hB h1).mono ?_
  rintro e w' ⟨he, hR⟩
  exact ⟨he, hR.w h1 h3⟩
end
section
variable {base m : Nat} {w : World} {D : List E} {C : List (List E)} {A : Nat → Prop}
theorem RMeshW.c0 (h : RMeshW base w m D C A) : ∃ b B c, w.cell? ⟨m, 0, none⟩ = some (.pointer (some ⟨b, 0, none⟩)) ∧ w.cell? ⟨b, 0, none⟩ = some (.slice B D.length c) ∧ b < w.heap.size := by
  obtain ⟨b, g, v, q, h1, h2, h3⟩ := h
  obtain ⟨r, hv, hrx, -⟩ := h1.st.form
  have := h1.st.blk.cell 0
  exact ⟨b, r.A, r.c, h1.c0, by rw [this, ← hrx, ← hv]; rfl, h1.st.lt⟩
theorem RMeshW.c1 (h : RMeshW base w m D C A) {k : Nat} (hk : k < C.length) : ∃ (g : Nat) (y : SlV E), w.cell? ⟨m, 1, none⟩ = some (.slice (some ⟨g, 0, none⟩) C.length C.length) ∧ w.cell? ⟨g, k, none⟩ = some (.slice y.A y.xs.length y.c) ∧ g < w.heap.size ∧ y.xs = C.getD k [] ∧ EsAt w y := by
  obtain ⟨b, g, v, q, h1, rfl, h3⟩ := h
  have hl : (q.map SlV.xs).length = q.length := List.length_map ..
  rw [hl] at hk ⊢
  exact ⟨g, q[k], h1.c1, h1.at hk, h1.row.lt, by rw [map_getD, getD_get SlV.nil hk], (h1.own _ (List.getElem_mem hk)).es⟩
end
/-- the reference's mesh at first -/
theorem RMeshW.first {base : Nat} {w W : World} {N : Nat} (h6 : N ≤ 6) (hB : base ≤ w.heap.size) (hW : W = ((w.alloc (.cells #[.slice none 0 0] 29)).alloc (.cells ((noneC N).map SlV.val).toArray 27)).alloc (.cells #[.pointer (some ⟨w.heap.size, 0, none⟩), .slice (some ⟨w.heap.size + 1, 0, none⟩) N N] 32)) :
    RMeshW base W (w.heap.size + 2) [] (List.replicate N []) (fun i => w.heap.size ≤ i ∧ i < W.heap.size) := by
  have hz : W.heap.size = w.heap.size + 3 := by rw [hW]; simp
  have hl := noneC_len N
  have hnil : foot (.slice none 0 0) = none := rfl
  have hq : ∀ c ∈ noneC N, c = ⟨none, 0, []⟩ := fun c hc => (List.mem_replicate.1 hc).2
  have hB0 : Blk W w.heap.size 29 #[.slice none 0 0] := by rw [hW]; exact ((Blk.new w _ _).alloc _).alloc _
  have hB1 : Blk W (w.heap.size + 1) 27 ((noneC N).map SlV.val).toArray := by rw [hW]; exact (Blk.new_at (by simp)).alloc _
  have hB2 : Blk W (w.heap.size + 2) 32 #[.pointer (some ⟨w.heap.size, 0, none⟩), .slice (some ⟨w.heap.size + 1, 0, none⟩) N N] := by rw [hW]; exact Blk.new_at (by simp)
  refine ⟨w.heap.size, w.heap.size + 1, .slice none 0 0, noneC N, ⟨by rw [hl]; exact hB2, ⟨hB0, Ow.nil _ _ _ _ _, by rw [hnil]; simp, hB, (fun y hy => by cases hy), by simp⟩, hB1, fun c hc => by rw [hq c hc]; exact OwnC.none _ _, fun c hc i hi => by rw [hnil]; simp, fun c hc => by rw [hq c hc]; exact CacheD.nil _, Deeds.nil, by rw [hl]; exact h6, by omega, by omega⟩, by unfold noneC; rw [List.map_replicate], fun i hi => ?_⟩
  rcases hi with rfl | rfl | rfl | hi | ⟨c, hc, hi⟩
  · omega
  · omega
  · omega
  · rw [hnil] at hi; cases hi
  · rw [hq c hc] at hi; cases hi
theorem rmake (N : Nat) (h6 : N ≤ 6) (W : World) : (Instr.makeSlice 30 (.int .i64 (N : Int)) (.int .i64 (N : Int))).run Tryz.prog W = .ok (.slice (some ⟨W.heap.size, 0, none⟩) N N) (W.alloc (.cells ((noneC N).map SlV.val).toArray 27)) := by
  obtain ⟨i0, hi0, hz0, hzs, hzb⟩ := info_parts infoSE
  have := run_make (P := Tryz.prog) W 30 27 i0 (.slice none 0 0) Tryz.underlying30 hi0 hz0 .i64 .i64 (N : Int) (N : Int) (by omega) (by omega) (by rw [hzb]; omega) (by omega)
  rw [Int.toNat_natCast, hzs, Nat.mul_one] at this
  rw [← made_none h6]
  exact this
end Go.Proofs.YtemhdfodghfkfaaGreatDoor
