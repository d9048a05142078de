/-
  THE MESH: how it lies, and CONTRACTS of mesh.New, node, Cache, learn. CONDITIONS: none.
-/
import Derived.Test.YtlcbdhblaamekaaDoorMLaw
import Derived.Test.YtlcbdhblaamekaaDoorStore2
import Derived.Test.YtlcbdhblaamekaaDoorRowE
import Derived.Test.YtlcbdhblaamekaaDoorCAdd
import Derived.Test.YtlcbdhblaamekaaDoorBoxR
import Derived.Deep.RegionLaw
import Derived.Deep.CutBlock
import Derived.Deep.DeepCutAuto
namespace Go.Proofs.YtlcbdhblaamekaaDoor
open Go.RowKit
open Go.ChangeShapes Go.WideShapes Go.ChangeAt

theorem StoreO.monoB {base base' s : Nat} {w : World} {vs : List Value} {ls : List (List Ch)} {n : Int} (h : StoreO base w s vs ls n) (hb : base' ≤ base) : StoreO base' w s vs ls n :=
  ⟨h.blk, h.len, fun k hk => (h.own k hk).mono hb, h.apart, h.off, Nat.le_trans hb h.base⟩
theorem results_boxT {P : Program} {fn : Func} {p u v : Tmp} {ty t : TypeId} {tmps : Array Value} {w : World} {g : Nat} {cs : Array Value} {d : TypeDesc} (h : fn.results = #[.cell p ty, .tmp u, .tmp v])
    (hp : tmps.getD p undef = .pointer (some ⟨g, 0, none⟩)) (hg : Blk w g t cs) (hu : P.underlying ty = some d) (hd : (match d with | .struct _ | .array _ _ => true | _ => false) = true) (hi : (P.info? ty).map (·.size) = some cs.size) :
    (results fn tmps).run P w = .ok (.tuple #[.agg cs, tmps.getD u undef, tmps.getD v undef]) w := by
  have hp' : tmps[p]?.getD undef = .pointer (some ⟨g, 0, none⟩) := by simpa using hp
  simp [results, h, hp', asAddr, run_loadVar_row w g t ty cs (0, 0) d hg hu hd hi]
theorem Ow.apartB {α : Type} {cells : α → List Value} {n base : Nat} {T T' : TypeId} {w : World} {v : Value} {l : List α} (h : Ow cells n base T w v l) {b : Nat} {cs : Array Value} (hB : Blk w b T' cs) (hT : T ≠ T') {g : Nat} (hg : foot v = some g) : g ≠ b := fun e => by
  obtain ⟨cur, hc⟩ := h.typ hg
  rw [e] at hc
  exact hT (hc.eq_ hB).2
theorem tyR1 : (38 : TypeId) ≠ 34 := by decide
theorem tyR2 : (98 : TypeId) ≠ 34 := by decide
theorem tyR3 : (83 : TypeId) ≠ 34 := by decide
theorem tyR4 : (64 : TypeId) ≠ 34 := by decide
theorem tyM1 : (38 : TypeId) ≠ 98 := by decide
theorem tyM2 : (38 : TypeId) ≠ 83 := by decide
theorem tyM3 : (64 : TypeId) ≠ 83 := by decide
theorem tyM4 : (34 : TypeId) ≠ 83 := by decide
theorem tyM5 : (98 : TypeId) ≠ 64 := by decide
/-- where it lies -/
structure MeshO (base : Nat) (w : World) (m s g : Nat) (vs : List Value) (D : List E) (q : List (SlV E)) : Prop where
  blk : Blk w m 64 #[.pointer (some ⟨s, 0, none⟩), .slice (some ⟨g, 0, none⟩) q.length q.length]
  st : StoreO base w s vs (lsOf D) D.length
  stp : StP (lsOf D) D.length
  row : Blk w g 34 (q.map SlV.val).toArray
  own : ∀ c ∈ q, OwnC base w c
  cac : ∀ c ∈ q, CacheD D c.xs
  deeds : Deeds D
  six : q.length ≤ 6
  bm : base ≤ m
  bg : base ≤ g
section
variable {base m s g : Nat} {w w' : World} {vs : List Value} {D : List E} {q : List (SlV E)}
theorem MeshO.belowS (h : MeshO base w m s g vs D q) (hb : Below w.heap.size w w') : MeshO base w' m s g vs D q :=
  ⟨h.blk.belowS hb, h.st.belowS hb, h.stp, h.row.belowS hb, fun c hc => (h.own c hc).belowS hb, h.cac, h.deeds, h.six, h.bm, h.bg⟩
theorem MeshO.lt (h : MeshO base w m s g vs D q) : m < w.heap.size := h.blk.lt
theorem MeshO.c0 (h : MeshO base w m s g vs D q) : w.cell? ⟨m, 0, none⟩ = some (.pointer (some ⟨s, 0, none⟩)) := h.blk.cell 0
theorem MeshO.c1 (h : MeshO base w m s g vs D q) : w.cell? ⟨m, 1, none⟩ = some (.slice (some ⟨g, 0, none⟩) q.length q.length) := h.blk.cell 1
theorem MeshO.at (h : MeshO base w m s g vs D q) {k : Nat} (hk : k < q.length) : w.cell? ⟨g, k, none⟩ = some (.slice q[k].A q[k].xs.length q[k].c) := by
  have := h.row.cell k
  rw [this]
  simp [hk, SlV.val]
theorem MeshO.ms (h : MeshO base w m s g vs D q) : m ≠ s := fun e => by
  have := h.blk
  rw [e] at this
  exact tyM3 (this.eq_ h.st.blk).2
theorem MeshO.gs (h : MeshO base w m s g vs D q) : g ≠ s := fun e => by
  have := h.row
  rw [e] at this
  exact tyM4 (this.eq_ h.st.blk).2
theorem MeshO.mg (h : MeshO base w m s g vs D q) : m ≠ g := fun e => by
  have := h.blk
  rw [e] at this
  exact tyR4 (this.eq_ h.row).2
/-- a cache is put in the place of another -/
theorem MeshO.put (h : MeshO base w m s g vs D q) {k : Nat} {y : SlV E} (hy : OwnC base w y) (hc : CacheD D y.xs) : MeshO base (w.setCell ⟨g, k, none⟩ y.val) m s g vs D (q.set k y) := by
  have hF : Fr (fun i => i = g) w (w.setCell ⟨g, k, none⟩ y.val) := (Fr.refl (fun i => i = g) w).setCell (p := ⟨g, k, none⟩) (.inl rfl) _
  refine ⟨?_, h.st.fr hF h.gs.symm (fun j hj i hi => (h.st.own j hj).apartB h.row tyR2 hi), h.stp, ?_, fun c hcm => ?_, fun c hcm => ?_, h.deeds, by rw [List.length_set]; exact h.six, h.bm, h.bg⟩
  · rw [List.length_set]
    exact h.blk.fr hF h.mg
  · have := h.row.put k y.val
    rw [List.map_set]
    simpa using this
  · have hx : OwnC base w c := by
      rcases List.mem_or_eq_of_mem_set hcm with hcm | rfl
      · exact h.own c hcm
      · exact hy
    exact ⟨hx.1.fr hF (fun i hi => hx.1.apartB h.row tyR1 hi), hx.2⟩
  · rcases List.mem_or_eq_of_mem_set hcm with hcm | rfl
    · exact h.cac c hcm
    · exact hc
end
/-- the blocks of a mesh -/
def MPart (m s g : Nat) (vs : List Value) (q : List (SlV E)) (i : Nat) : Prop := i = m ∨ i = s ∨ i = g ∨ (∃ k, k < 8 ∧ foot (vs.getD k nilS) = some i) ∨ ∃ c ∈ q, foot c.val = some i
theorem MeshO.part {base m s g : Nat} {w : World} {vs : List Value} {D : List E} {q : List (SlV E)} (h : MeshO base w m s g vs D q) {i : Nat} (hi : MPart m s g vs q i) : base ≤ i ∧ i < w.heap.size := by
  rcases hi with rfl | rfl | rfl | ⟨k, hk, hf⟩ | ⟨c, hc, hf⟩
  · exact ⟨h.bm, h.blk.lt⟩
  · exact ⟨h.st.base, h.st.lt⟩
  · exact ⟨h.bg, h.row.lt⟩
  · exact h.st.footlt hk hf
  · exact (h.own c hc).1.lt hf
theorem MeshO.fr {base m s g : Nat} {w w' : World} {vs : List Value} {D : List E} {q : List (SlV E)} {S : Nat → Prop} (h : MeshO base w m s g vs D q) (hF : Fr S w w') (hS : ∀ i, MPart m s g vs q i → ¬ S i) : MeshO base w' m s g vs D q :=
  ⟨h.blk.fr hF (hS _ (.inl rfl)), h.st.fr hF (hS _ (.inr (.inl rfl))) (fun k hk _ hi => hS _ (.inr (.inr (.inr (.inl ⟨k, hk, hi⟩))))), h.stp, h.row.fr hF (hS _ (.inr (.inr (.inl rfl)))), fun c hc => ⟨(h.own c hc).1.fr hF (fun _ hi => hS _ (.inr (.inr (.inr (.inr ⟨c, hc, hi⟩))))), (h.own c hc).2⟩, h.cac, h.deeds, h.six, h.bm, h.bg⟩
theorem MPart.set {m s g k : Nat} {vs : List Value} {q : List (SlV E)} {y : SlV E} {i : Nat} (h : MPart m s g vs (q.set k y) i) : MPart m s g vs q i ∨ foot y.val = some i := by
  rcases h with h | h | h | h | ⟨c, hc, hf⟩
  · exact .inl (.inl h)
  · exact .inl (.inr (.inl h))
  · exact .inl (.inr (.inr (.inl h)))
  · exact .inl (.inr (.inr (.inr (.inl h))))
  · rcases List.mem_or_eq_of_mem_set hc with hc | rfl
    · exact .inl (.inr (.inr (.inr (.inr ⟨c, hc, hf⟩))))
    · exact .inr hf
/-- a node? -/
def inM (len : Nat) (k : Int) : Bool := decide (0 ≤ k) && decide (k < (len : Int))
theorem inM_true {len : Nat} {k : Int} : inM len k = true ↔ 0 ≤ k ∧ k < (len : Int) := by simp [inM]
theorem inM_false {len : Nat} {k : Int} : inM len k = false ↔ k < 0 ∨ (len : Int) ≤ k := by
  rw [← Bool.not_eq_true, inM_true]; omega
section
variable {base m s g : Nat} {vs : List Value} {D : List E} {q : List (SlV E)}
theorem mnode_any (k : Int) (w : World) (h : MeshO base w m s g vs D q) :
    Calls Tryd.prog 25 #[.pointer (some ⟨m, 0, none⟩), .int .i64 k] w fun e w' => e = .returned (.bool (inM q.length k)) ∧ w = w' := by
  have c1 := h.c1
  have hl := h.lt
  clear h
  by_cases h0 : 0 ≤ k
  · by_cases h1 : k < (q.length : Int)
    · rw [show inM q.length k = true from inM_true.2 ⟨h0, h1⟩]
      go_enter Tryd.func25, Tryd.ntmps25
      go_wp2_with fail
      go_ret
      exact ⟨rfl, rfl⟩
    · rw [show inM q.length k = false from inM_false.2 (by omega)]
      go_enter Tryd.func25, Tryd.ntmps25
      go_wp2_with fail
      go_ret
      exact ⟨rfl, rfl⟩
  · rw [show inM q.length k = false from inM_false.2 (by omega)]
    go_enter Tryd.func25, Tryd.ntmps25
    go_wp2_with fail
    go_ret
    exact ⟨rfl, rfl⟩

/-- what Cache hands out -/
def MCache (w : World) (q : List (SlV E)) (k : Int) (e : Ending) (w' : World) : Prop :=
  (inM q.length k = false ∧ e = .returned (.tuple #[.slice none 0 0, .iface 59 (.int .i64 1)]) ∧ Below w.heap.size w w') ∨
  (inM q.length k = true ∧ ∃ y : SlV E, e = .returned (.tuple #[.slice y.A y.xs.length y.c, .nilIface]) ∧ y.xs = (q.getD k.toNat SlV.nil).xs ∧ OwnC w.heap.size w' y ∧ Below w.heap.size w w')
set_option maxHeartbeats 2000000 in
theorem mcache_any (k : Int) (w : World) (h : MeshO base w m s g vs D q) :
    Calls Tryd.prog 8 #[.pointer (some ⟨m, 0, none⟩), .int .i64 k] w (MCache w q k) := by
  have c1 := h.c1
  have hl := h.lt
  have HN := hid (mnode_any k w h)
  rcases hi : inM q.length k with _ | _
  · rw [hi] at HN
    have Hi := hid hi
    clear hi h
    go_enter Tryd.func8, Tryd.ntmps8
    go_wp2_with fail
    refine HN.out.mono ?_
    rintro e w1 ⟨rfl, rfl⟩
    go_wp2_with fail
    refine bodyPost_ret (v := .tuple #[.slice none 0 0, .iface 59 (.int .i64 1)]) ?_ rfl (.inl ⟨Hi.out, rfl, Below.refl _ _⟩)
    simp [results, Tryd.results8, go_sem]
  · rw [hi] at HN
    obtain ⟨h0, h1⟩ := inM_true.1 hi
    obtain ⟨n, rfl⟩ := Int.eq_ofNat_of_zero_le h0
    have hn : n < q.length := by omega
    have hc := h.at hn
    have hmem := List.getElem_mem hn
    have hown := (h.own _ hmem)
    have hcc := (h.cac _ hmem).1
    have Hi := hid hi
    have hg := h.row.lt
    have hgd : q.getD (n : Int).toNat SlV.nil = q[n] := by rw [Int.toNat_natCast, getD_get _ hn]
    unfold MCache
    rw [hgd]
    clear hgd
    generalize q[n] = c at *
    have Hgood := hid hown.2
    have hE := eclone_any c w hown.es (by have := (chkC_ok hcc).1; omega)
    have HE := hid hE
    clear hown hcc hE hi h hmem
    go_enter Tryd.func8, Tryd.ntmps8
    go_wp2_with fail
    refine HN.out.mono ?_
    rintro e w1 ⟨rfl, rfl⟩
    go_wp2_with fail
    refine HE.out.mono ?_
    rintro e w2 ⟨v, rfl, hO, hb⟩
    obtain ⟨y, rfl, hyx, hy⟩ := OwnC.of_ow hO Hgood.out
    have Hy := hid hy
    have Hyx := hid hyx
    have Hb := hid hb
    clear hO hy hyx hb
    go_wp2_with fail
    refine bodyPost_ret (v := .tuple #[.slice y.A y.xs.length y.c, .nilIface]) ?_ rfl (.inr ⟨Hi.out, y, rfl, Hyx.out, Hy.out, Hb.out⟩)
    simp [results, Tryd.results8, go_sem]

/-- what learn leaves -/
def MLearn (base m s g : Nat) (vs : List Value) (D : List E) (q : List (SlV E)) (k : Nat) (key : Int) (w : World) (e : Ending) (w' : World) : Prop :=
  ∃ y : SlV E, e = .returned (.tuple #[(entC key D.length (refC D key)).val, .nilIface]) ∧ y.xs = (addC (q.getD k SlV.nil).xs (entC key D.length (refC D key))).1 ∧ MeshO base w' m s g vs D (q.set k y) ∧ Fr (fun i => i = g) w w' ∧ ∀ i, foot y.val = some i → w.heap.size ≤ i
theorem atS_now {D : List E} {key : Int} (hk : keyB key = true) : atS (lsOf D) D.length key D.length = (entC key D.length (refC D key), 0) := by
  rw [atS_r, ratS, if_pos ⟨hk, by omega, by omega⟩, Int.toNat_natCast, List.take_length]
set_option maxHeartbeats 8000000 in
set_option maxRecDepth 100000 in
theorem mlearn_any (k : Nat) (key : Int) (w : World) (hB : base ≤ w.heap.size) (h : MeshO base w m s g vs D q) (hk : k < q.length) (hkey : keyB key = true) :
    Calls Tryd.prog 37 #[.pointer (some ⟨m, 0, none⟩), .int .i64 k, .int .i64 key] w (MLearn base m s g vs D q k key w) := by
  have HRd := hid (fun W (hW : Below w.heap.size w W) => sread_any base s key vs (lsOf D) D.length W (h.st.belowS hW) h.stp)
  rw [atS_now hkey] at HRd
  have HM := hid (fun W (hW : Below w.heap.size w W) => h.belowS hW)
  have hmem := List.getElem_mem hk
  have hcd := h.cac _ hmem
  have hnow : TrueD D (entC key D.length (refC D key)) := TrueD.now hkey
  obtain ⟨ha0, hac, -⟩ := hcd.add h.deeds hnow
  have hek : chk (entC key D.length (refC D key)) = 0 := hnow.chk h.deeds
  obtain ⟨hn8, -, hS, hK⟩ := chkC_ok hcd.1
  have hgd : q.getD k SlV.nil = q[k] := getD_get _ hk
  have c1 := h.c1
  have c0 := h.c0
  have hg := h.row.lt
  have hat := h.at hk
  have hown := h.own _ hmem
  have hkey8 := keyB_true.1 hkey
  unfold MLearn
  rw [hgd]
  generalize q[k] = c at *
  have hek0 : (entC key D.length (refC D key)).key = key := rfl
  generalize entC key D.length (refC D key) = x at *
  obtain ⟨x0, x1, x2, x3, x4⟩ := x
  simp only at hek0
  subst hek0
  have HAd := hid (fun W (hW : Below w.heap.size w W) => added_any c x0 x1 x2 x3 x4 W (chk_goodE hek) hkey8 (hown.es.stays hW) hS hK hn8)
  rw [ha0] at HAd
  have Hgood := hid (val_good hac.1)
  have Hac := hid hac
  generalize (addC c.xs ⟨x0, x1, x2, x3, x4⟩).1 = l2 at *
  simp only [E.val] at HRd ⊢
  rw [errV_zero] at HRd
  have hk0 : (0 : Int) ≤ (k : Int) := by omega
  have hkl : (k : Int) < (q.length : Int) := by omega
  have HB := hid hB
  have HC1 := hid (fun W (hW : Below w.heap.size w W) => (HM.out W hW).c1)
  have Hc0 := hid c0
  have Hat := hid (fun W (hW : Below w.heap.size w W) => show W.cell? ⟨g, k, none⟩ = some (.slice c.A c.xs.length c.c) from (hW.cell (p := ⟨g, k, none⟩) hg).trans hat)
  have hlm := h.lt
  have HP := hid (fun i (hi : MPart m s g vs q i) => (h.part hi).2)
  clear h hmem hcd hnow ha0 hac hek hS hK hgd hown hkey hat c1 hB
  go_enter Tryd.func37, Tryd.ntmps37
  go_wp2_with fail
  refine (HRd.out _ (by (repeat (first | with_reducible exact Below.refl _ _ | with_reducible assumption | (with_reducible refine Below.drew ?_) | (with_reducible refine Below.manyDrew ?_ _) | ((with_reducible refine Below.alloc ?_ ?_ _); rotate_left; (focus (first | omega | (dsimp only; omega) | (simp; done) | (simp; omega)))) | ((with_reducible refine Below.setCell ?_ ?_ _); rotate_left; (focus (first | omega | (dsimp only; omega) | (simp; done) | (simp; omega)))) | ((with_reducible refine Below.step ?_ (by assumption) ?_); rotate_left; (focus (first | omega | (dsimp only; omega) | (simp; done) | (simp; omega)))))))).mono ?_
  rintro e w1 ⟨rfl, hb1⟩
  have hB0 := (Blk.new w 38 #[.int .i64 0, .int .i64 0, .int .i64 0, .bool false, .string ⟨#[]⟩]).belowS hb1
  have hbw1 : Below w.heap.size w w1 := by (repeat (first | with_reducible exact Below.refl _ _ | with_reducible assumption | (with_reducible refine Below.drew ?_) | (with_reducible refine Below.manyDrew ?_ _) | ((with_reducible refine Below.alloc ?_ ?_ _); rotate_left; (focus (first | omega | (dsimp only; omega) | (simp; done) | (simp; omega)))) | ((with_reducible refine Below.setCell ?_ ?_ _); rotate_left; (focus (first | omega | (dsimp only; omega) | (simp; done) | (simp; omega)))) | ((with_reducible refine Below.step ?_ (by assumption) ?_); rotate_left; (focus (first | omega | (dsimp only; omega) | (simp; done) | (simp; omega))))))
  have hz1 := hbw1.size
  clear hb1 HRd
  go_upto_region 2 with fail
  obtain ⟨w2, hw2⟩ : ∃ W : World, W = w1.alloc (.cells #[.int .i64 x0, .int .i64 x1, .int .i64 x2, .bool x3, .string x4] 38) := ⟨_, rfl⟩
  rw [← hw2]
  have HX2 := hid (show Blk w2 w1.heap.size 38 #[.int .i64 x0, .int .i64 x1, .int .i64 x2, .bool x3, .string x4] by rw [hw2]; exact Blk.new _ _ _)
  have HZ2 := hid (show Blk w2 w.heap.size 38 #[.int .i64 0, .int .i64 0, .int .i64 0, .bool false, .string ⟨#[]⟩] by rw [hw2]; exact hB0.alloc _)
  have Hb2 := hid (show Below w.heap.size w w2 by rw [hw2]; exact hbw1.alloc hz1 _)
  have hz2 := Hb2.out.size
  have hlx := HX2.out.lt
  clear hw2 hB0 hbw1
  have d1 := HC1.out w2 Hb2.out
  have d2 := Hat.out w2 Hb2.out
  have e0 : w2.cell? ⟨w1.heap.size, 0, none⟩ = some (.int .i64 x0) := HX2.out.cell 0
  have e1 : w2.cell? ⟨w1.heap.size, 1, none⟩ = some (.int .i64 x1) := HX2.out.cell 1
  have e2 : w2.cell? ⟨w1.heap.size, 2, none⟩ = some (.int .i64 x2) := HX2.out.cell 2
  have e3 : w2.cell? ⟨w1.heap.size, 3, none⟩ = some (.bool x3) := HX2.out.cell 3
  have e4 : w2.cell? ⟨w1.heap.size, 4, none⟩ = some (.string x4) := HX2.out.cell 4
  have hg2 : g < w2.heap.size := by omega
  have hm2 : m < w2.heap.size := by omega
  go_upto_region 4 with fail
  go_cut [9, 10] (fun er t wx => er = .nilIface ∧ (∃ y : SlV E, t = .slice y.A y.xs.length y.c ∧ y.xs = l2 ∧ OwnC w2.heap.size wx y) ∧ Below w2.heap.size w2 wx)
  case first =>
    go_region_law (first | (go_simp; go_at_call 52; refine (HAd.out _ (Below.manyDrew Hb2.out 1)).mono ?_; rintro e wj ⟨vj, rfl, hOj, hbj⟩; have hbj2 : Below w2.heap.size w2 wj := (Below.manyDrew (Below.refl _ _) 1).trans hbj))
    all_goals
      rw [errV_zero]
      go_wp2_with fail
      go_meet
      obtain ⟨y, hy1, hy2, hy3⟩ := OwnC.of_ow (hOj.mono (Nat.le_refl _)) Hgood.out
      exact ⟨rfl, ⟨y, hy1, hy2, hy3⟩, hbj2⟩
  case rest =>
  obtain ⟨rfl, ⟨y, rfl, hyx, hy⟩, hb3⟩ := hcut
  obtain ⟨w3, rfl⟩ : ∃ w3 : World, w3 = wc := ⟨_, rfl⟩
  have HX3 := hid (HX2.out.belowS hb3)
  have HZ3 := hid (HZ2.out.belowS hb3)
  have Hb3 := hid (Below.step Hb2.out hb3 hz2)
  have hz3 := Hb3.out.size
  have d3 := HC1.out w3 Hb3.out
  have d4 := Hat.out w3 Hb3.out
  have hf4 := (HM.out w3 Hb3.out).row.frozen k
  have hyb : ∀ i, foot y.val = some i → w2.heap.size ≤ i := fun i hi => (hy.1.lt hi).1
  have Hyb := hid hyb
  have hfM := (HM.out w3 Hb3.out).put (k := k) (⟨hy.1.mono (Nat.le_trans HB.out hz2), hy.2⟩ : OwnC base w3 y) (by rw [hyx]; exact Hac.out)
  have hn1 : g ≠ w.heap.size := by omega
  have hn2 : g ≠ w1.heap.size := by omega
  have HfM := hid hfM
  have Hyx := hid hyx
  have hg3 : g < w3.heap.size := by omega
  have HX4 := hid (HX3.out.far (p := ⟨g, k, none⟩) hn2.symm y.val)
  have HZ4 := hid (HZ3.out.far (p := ⟨g, k, none⟩) hn1.symm y.val)
  have HF4 := hid (show Fr (fun i => i = g) w (w3.setCell ⟨g, k, none⟩ y.val) from (show Fr (fun i => i = g) w w3 from Fr.ofB Hb3.out).setCell (p := ⟨g, k, none⟩) (.inl rfl) _)
  clear hb3 hfM hy hyx hyb d1 d2 e0 e1 e2 e3 e4
  go_upto_region 8 with fail
  obtain ⟨w4, hw4⟩ : ∃ W : World, W = w3.setCell ⟨g, k, none⟩ y.val := ⟨_, rfl⟩
  rw [show (Value.slice y.A y.xs.length y.c) = y.val from rfl, ← hw4]
  rw [← hw4] at HfM HX4 HZ4 HF4
  have hX4 := HX4.out
  have hZ4 := HZ4.out
  have e0 : w4.cell? ⟨w1.heap.size, 0, none⟩ = some (.int .i64 x0) := hX4.cell 0
  have e1 : w4.cell? ⟨w1.heap.size, 1, none⟩ = some (.int .i64 x1) := hX4.cell 1
  have e2 : w4.cell? ⟨w1.heap.size, 2, none⟩ = some (.int .i64 x2) := hX4.cell 2
  have e3 : w4.cell? ⟨w1.heap.size, 3, none⟩ = some (.bool x3) := hX4.cell 3
  have e4 : w4.cell? ⟨w1.heap.size, 4, none⟩ = some (.string x4) := hX4.cell 4
  have y0 : w4.cell? ⟨w.heap.size, 0, none⟩ = some (.int .i64 0) := hZ4.cell 0
  have y1 : w4.cell? ⟨w.heap.size, 1, none⟩ = some (.int .i64 0) := hZ4.cell 1
  have y2 : w4.cell? ⟨w.heap.size, 2, none⟩ = some (.int .i64 0) := hZ4.cell 2
  have y3 : w4.cell? ⟨w.heap.size, 3, none⟩ = some (.bool false) := hZ4.cell 3
  have y4 : w4.cell? ⟨w.heap.size, 4, none⟩ = some (.string ⟨#[]⟩) := hZ4.cell 4
  have f0 := hZ4.frozen 0
  have f1 := hZ4.frozen 1
  have f2 := hZ4.frozen 2
  have f3 := hZ4.frozen 3
  have f4 := hZ4.frozen 4
  have hl4 := hX4.lt
  have hl5 := hZ4.lt
  clear hw4 d3 d4 hX4 hZ4
  go_wp2_with fail
  refine bodyPost_ret (v := .tuple #[.agg #[.int .i64 x0, .int .i64 x1, .int .i64 x2, .bool x3, .string x4], .nilIface]) ?_ rfl ⟨y, rfl, Hyx.out, ?_, ?_, fun i hi => Nat.le_trans hz2 (Hyb.out i hi)⟩
  · exact results_box Tryd.results37 rfl (Blk.put5 HZ4.out _ _ _ _ _) Tryd.underlying38 rfl (by kernel_rfl)
  · have hF : Fr (fun i => i = w.heap.size) w4 _ := ((((((Fr.refl (fun i => i = w.heap.size) w4).setCell (p := ⟨w.heap.size, 0, none⟩) (.inl rfl) (.int .i64 x0)).setCell (p := ⟨w.heap.size, 1, none⟩) (.inl rfl) (.int .i64 x1)).setCell (p := ⟨w.heap.size, 2, none⟩) (.inl rfl) (.int .i64 x2)).setCell (p := ⟨w.heap.size, 3, none⟩) (.inl rfl) (.bool x3)).setCell (p := ⟨w.heap.size, 4, none⟩) (.inl rfl) (.string x4))
    refine HfM.out.fr hF (fun i hi e => ?_)
    rcases hi.set with hi | hi
    · have := HP.out i hi; omega
    · have := Hyb.out i hi; omega
  · exact (((((HF4.out.setCell (p := ⟨w.heap.size, 0, none⟩) (.inr (Nat.le_refl _)) _).setCell (p := ⟨w.heap.size, 1, none⟩) (.inr (Nat.le_refl _)) _).setCell (p := ⟨w.heap.size, 2, none⟩) (.inr (Nat.le_refl _)) _).setCell (p := ⟨w.heap.size, 3, none⟩) (.inr (Nat.le_refl _)) _).setCell (p := ⟨w.heap.size, 4, none⟩) (.inr (Nat.le_refl _)) _)
end
end Go.Proofs.YtlcbdhblaamekaaDoor
