/-
  THE MESH: how it lies, and CONTRACTS of mesh.New, node, Cache, learn. CONDITIONS: none.
  CONTRACTS of mesh.do and of what is done: Put, Delete. CONDITIONS: none.
  CONTRACTS of mesh.Put and mesh.Delete. CONDITIONS: none.
  CONTRACT of mesh.Get. CONDITIONS: none.
  CONTRACT of mesh.New. CONDITIONS: none.
  THE MESH by what it holds (its inner addresses left open), and the contracts of its operations in that form. CONDITIONS: none.
  CONTRACT of mesh.Delete. CONDITIONS: none.
  CONTRACT of mesh.Seq. CONDITIONS: none.
-/
import Derived.Test.YtemhdfodghfkfaaGreatDoorMLaw
import Derived.Test.YtemhdfodghfkfaaGreatDoorStore2
import Derived.Test.YtemhdfodghfkfaaGreatDoorRowE
import Derived.Test.YtemhdfodghfkfaaGreatDoorCAdd
import Derived.Deep.RegionLaw
import Derived.Deep.CutBlock
import Derived.Deep.DeepCutAuto
import Derived.Laws.MakeOwn
namespace Go.Proofs.YtemhdfodghfkfaaGreatDoor
open Go.RowKit
open Go.ChangeShapes Go.WideShapes Go.ChangeAt

theorem StoreO.monoB {base base' s : Nat} {w : World} {vs : List Value} {ls : List (List Ch)} {n : Int} (h : StoreO base w s vs ls n) (hb : base' ≤ base) : StoreO base' w s vs ls n :=
  ⟨h.blk, h.len, fun k hk => (h.own k hk).mono hb, h.apart, h.off, Nat.le_trans hb h.base⟩
theorem results_boxT {P : Program} {fn : Func} {p u v : Tmp} {ty t : TypeId} {tmps : Array Value} {w : World} {g : Nat} {cs : Array Value} {d : TypeDesc} (h : fn.results = #[.cell p ty, .tmp u, .tmp v])
    (hp : tmps.getD p undef = .pointer (some ⟨g, 0, none⟩)) (hg : Blk w g t cs) (hu : P.underlying ty = some d) (hd : (match d with | .struct _ | .array _ _ => true | _ => false) = true) (hi : (P.info? ty).map (·.size) = some cs.size) :
    (results fn tmps).run P w = .ok (.tuple #[.agg cs, tmps.getD u undef, tmps.getD v undef]) w := by
  have hp' : tmps[p]?.getD undef = .pointer (some ⟨g, 0, none⟩) := by simpa using hp
  simp [results, h, hp', asAddr, run_loadVar_row w g t ty cs (0, 0) d hg hu hd hi]
theorem Ow.apartB {α : Type} {cells : α → List Value} {n base : Nat} {T T' : TypeId} {w : World} {v : Value} {l : List α} (h : Ow cells n base T w v l) {b : Nat} {cs : Array Value} (hB : Blk w b T' cs) (hT : T ≠ T') {g : Nat} (hg : foot v = some g) : g ≠ b := fun e => by
  obtain ⟨cur, hc⟩ := h.typ hg
  rw [e] at hc
  exact hT (hc.eq_ hB).2
theorem tyR1 : (59 : TypeId) ≠ 27 := by decide
theorem tyR2 : (209 : TypeId) ≠ 27 := by decide
theorem tyR3 : (134 : TypeId) ≠ 27 := by decide
theorem tyR4 : (97 : TypeId) ≠ 27 := by decide
theorem tyM1 : (59 : TypeId) ≠ 209 := by decide
theorem tyM2 : (59 : TypeId) ≠ 134 := by decide
theorem tyM3 : (97 : TypeId) ≠ 134 := by decide
theorem tyM4 : (27 : TypeId) ≠ 134 := by decide
theorem tyM5 : (209 : TypeId) ≠ 97 := by decide
/-- where it lies -/
structure MeshO (base : Nat) (w : World) (m s g : Nat) (vs : List Value) (D : List E) (q : List (SlV E)) : Prop where
  blk : Blk w m 97 #[.pointer (some ⟨s, 0, none⟩), .slice (some ⟨g, 0, none⟩) q.length q.length]
  st : StoreO base w s vs (lsOf D) D.length
  stp : StP (lsOf D) D.length
  row : Blk w g 27 (q.map SlV.val).toArray
  own : ∀ c ∈ q, OwnC base w c
  cac : ∀ c ∈ q, CacheD D c.xs
  deeds : Deeds D
  six : q.length ≤ 6
  bm : base ≤ m
  bg : base ≤ g
section
variable {base m s g : Nat} {w w' : World} {vs : List Value} {D : List E} {q : List (SlV E)}
theorem MeshO.belowS (h : MeshO base w m s g vs D q) (hb : Below w.heap.size w w') : MeshO base w' m s g vs D q :=
  ⟨h.blk.belowS hb, h.st.belowS hb, h.stp, h.row.belowS hb, fun c hc => (h.own c hc).belowS hb, h.cac, h.deeds, h.six, h.bm, h.bg⟩
theorem MeshO.lt (h : MeshO base w m s g vs D q) : m < w.heap.size := h.blk.lt
theorem MeshO.c0 (h : MeshO base w m s g vs D q) : w.cell? ⟨m, 0, none⟩ = some (.pointer (some ⟨s, 0, none⟩)) := h.blk.cell 0
theorem MeshO.c1 (h : MeshO base w m s g vs D q) : w.cell? ⟨m, 1, none⟩ = some (.slice (some ⟨g, 0, none⟩) q.length q.length) := h.blk.cell 1
theorem MeshO.at (h : MeshO base w m s g vs D q) {k : Nat} (hk : k < q.length) : w.cell? ⟨g, k, none⟩ = some (.slice q[k].A q[k].xs.length q[k].c) := by
  have := h.row.cell k
  rw [this]
  simp [hk, SlV.val]
theorem MeshO.ms (h : MeshO base w m s g vs D q) : m ≠ s := fun e => by
  have := h.blk
  rw [e] at this
  exact tyM3 (this.eq_ h.st.blk).2
theorem MeshO.gs (h : MeshO base w m s g vs D q) : g ≠ s := fun e => by
  have := h.row
  rw [e] at this
  exact tyM4 (this.eq_ h.st.blk).2
theorem MeshO.mg (h : MeshO base w m s g vs D q) : m ≠ g := fun e => by
  have := h.blk
  rw [e] at this
  exact tyR4 (this.eq_ h.row).2
/-- a cache is put in the place of another -/
theorem MeshO.put (h : MeshO base w m s g vs D q) {k : Nat} {y : SlV E} (hy : OwnC base w y) (hc : CacheD D y.xs) : MeshO base (w.setCell ⟨g, k, none⟩ y.val) m s g vs D (q.set k y) := by
  have hF : Fr (fun i => i = g) w (w.setCell ⟨g, k, none⟩ y.val) := (Fr.refl (fun i => i = g) w).setCell (p := ⟨g, k, none⟩) (.inl rfl) _
  refine ⟨?_, h.st.fr hF h.gs.symm (fun j hj i hi => (h.st.own j hj).apartB h.row tyR2 hi), h.stp, ?_, fun c hcm => ?_, fun c hcm => ?_, h.deeds, by rw [List.length_set]; exact h.six, h.bm, h.bg⟩
  · rw [List.length_set]
    exact h.blk.fr hF h.mg
  · have := h.row.put k y.val
    rw [List.map_set]
    simpa using this
  · have hx : OwnC base w c := by
      rcases List.mem_or_eq_of_mem_set hcm with hcm | rfl
      · exact h.own c hcm
      · exact hy
    exact ⟨hx.1.fr hF (fun i hi => hx.1.apartB h.row tyR1 hi), hx.2⟩
  · rcases List.mem_or_eq_of_mem_set hcm with hcm | rfl
    · exact h.cac c hcm
    · exact hc
end
/-- the blocks of a mesh -/
def MPart (m s g : Nat) (vs : List Value) (q : List (SlV E)) (i : Nat) : Prop := i = m ∨ i = s ∨ i = g ∨ (∃ k, k < 8 ∧ foot (vs.getD k nilS) = some i) ∨ ∃ c ∈ q, foot c.val = some i
theorem MeshO.part {base m s g : Nat} {w : World} {vs : List Value} {D : List E} {q : List (SlV E)} (h : MeshO base w m s g vs D q) {i : Nat} (hi : MPart m s g vs q i) : base ≤ i ∧ i < w.heap.size := by
  rcases hi with rfl | rfl | rfl | ⟨k, hk, hf⟩ | ⟨c, hc, hf⟩
  · exact ⟨h.bm, h.blk.lt⟩
  · exact ⟨h.st.base, h.st.lt⟩
  · exact ⟨h.bg, h.row.lt⟩
  · exact h.st.footlt hk hf
  · exact (h.own c hc).1.lt hf
theorem MeshO.fr {base m s g : Nat} {w w' : World} {vs : List Value} {D : List E} {q : List (SlV E)} {S : Nat → Prop} (h : MeshO base w m s g vs D q) (hF : Fr S w w') (hS : ∀ i, MPart m s g vs q i → ¬ S i) : MeshO base w' m s g vs D q :=
  ⟨h.blk.fr hF (hS _ (.inl rfl)), h.st.fr hF (hS _ (.inr (.inl rfl))) (fun k hk _ hi => hS _ (.inr (.inr (.inr (.inl ⟨k, hk, hi⟩))))), h.stp, h.row.fr hF (hS _ (.inr (.inr (.inl rfl)))), fun c hc => ⟨(h.own c hc).1.fr hF (fun _ hi => hS _ (.inr (.inr (.inr (.inr ⟨c, hc, hi⟩))))), (h.own c hc).2⟩, h.cac, h.deeds, h.six, h.bm, h.bg⟩
theorem MPart.set {m s g k : Nat} {vs : List Value} {q : List (SlV E)} {y : SlV E} {i : Nat} (h : MPart m s g vs (q.set k y) i) : MPart m s g vs q i ∨ foot y.val = some i := by
  rcases h with h | h | h | h | ⟨c, hc, hf⟩
  · exact .inl (.inl h)
  · exact .inl (.inr (.inl h))
  · exact .inl (.inr (.inr (.inl h)))
  · exact .inl (.inr (.inr (.inr (.inl h))))
  · rcases List.mem_or_eq_of_mem_set hc with hc | rfl
    · exact .inl (.inr (.inr (.inr (.inr ⟨c, hc, hf⟩))))
    · exact .inr hf
/-- a node? -/
def inM (len : Nat) (k : Int) : Bool := decide (0 ≤ k) && decide (k < (len : Int))
theorem inM_true {len : Nat} {k : Int} : inM len k = true ↔ 0 ≤ k ∧ k < (len : Int) := by simp [inM]
theorem inM_false {len : Nat} {k : Int} : inM len k = false ↔ k < 0 ∨ (len : Int) ≤ k := by
  rw [← Bool.not_eq_true, inM_true]; omega
section
variable {base m s g : Nat} {vs : List Value} {D : List E} {q : List (SlV E)}
theorem mnode_any (k : Int) (w : World) (h : MeshO base w m s g vs D q) :
    Calls Tryz.prog 113 #[.pointer (some ⟨m, 0, none⟩), .int .i64 k] w fun e w' => e = .returned (.bool (inM q.length k)) ∧ w = w' := by
  have c1 := h.c1
  have hl := h.lt
  clear h
  by_cases h0 : 0 ≤ k
  · by_cases h1 : k < (q.length : Int)
    · rw [show inM q.length k = true from inM_true.2 ⟨h0, h1⟩]
      go_enter Tryz.func113, Tryz.ntmps113
      go_wp2_with fail
      go_ret
      exact ⟨rfl, rfl⟩
    · rw [show inM q.length k = false from inM_false.2 (by omega)]
      go_enter Tryz.func113, Tryz.ntmps113
      go_wp2_with fail
      go_ret
      exact ⟨rfl, rfl⟩
  · rw [show inM q.length k = false from inM_false.2 (by omega)]
    go_enter Tryz.func113, Tryz.ntmps113
    go_wp2_with fail
    go_ret
    exact ⟨rfl, rfl⟩

/-- what Cache hands out -/
def MCache (w : World) (q : List (SlV E)) (k : Int) (e : Ending) (w' : World) : Prop :=
  (inM q.length k = false ∧ e = .returned (.tuple #[.slice none 0 0, .iface 78 (.int .i64 1)]) ∧ Below w.heap.size w w') ∨
  (inM q.length k = true ∧ ∃ y : SlV E, e = .returned (.tuple #[.slice y.A y.xs.length y.c, .nilIface]) ∧ y.xs = (q.getD k.toNat SlV.nil).xs ∧ OwnC w.heap.size w' y ∧ Below w.heap.size w w')
set_option maxHeartbeats 2000000 in
theorem mcache_any (k : Int) (w : World) (h : MeshO base w m s g vs D q) :
    Calls Tryz.prog 115 #[.pointer (some ⟨m, 0, none⟩), .int .i64 k] w (MCache w q k) := by
  have c1 := h.c1
  have hl := h.lt
  have HN := hid (mnode_any k w h)
  rcases hi : inM q.length k with _ | _
  · rw [hi] at HN
    have Hi := hid hi
    clear hi h
    go_enter Tryz.func115, Tryz.ntmps115
    go_wp2_with fail
    refine HN.out.mono ?_
    rintro e w1 ⟨rfl, rfl⟩
    go_wp2_with fail
    refine bodyPost_ret (v := .tuple #[.slice none 0 0, .iface 78 (.int .i64 1)]) ?_ rfl (.inl ⟨Hi.out, rfl, Below.refl _ _⟩)
    simp [results, Tryz.results115, go_sem]
  · rw [hi] at HN
    obtain ⟨h0, h1⟩ := inM_true.1 hi
    obtain ⟨n, rfl⟩ := Int.eq_ofNat_of_zero_le h0
    have hn : n < q.length := by omega
    have hc := h.at hn
    have hmem := List.getElem_mem hn
    have hown := (h.own _ hmem)
    have hcc := (h.cac _ hmem).1
    have Hi := hid hi
    have hg := h.row.lt
    have hgd : q.getD (n : Int).toNat SlV.nil = q[n] := by rw [Int.toNat_natCast, getD_get _ hn]
    unfold MCache
    rw [hgd]
    clear hgd
    generalize q[n] = c at *
    have Hgood := hid hown.2
    have hE := eclone_any c w hown.es (by have := (chkC_ok hcc).1; omega)
    have HE := hid hE
    clear hown hcc hE hi h hmem
    go_enter Tryz.func115, Tryz.ntmps115
    go_wp2_with fail
    refine HN.out.mono ?_
    rintro e w1 ⟨rfl, rfl⟩
    go_wp2_with fail
    refine HE.out.mono ?_
    rintro e w2 ⟨v, rfl, hO, hb⟩
    obtain ⟨y, rfl, hyx, hy⟩ := OwnC.of_ow hO Hgood.out
    have Hy := hid hy
    have Hyx := hid hyx
    have Hb := hid hb
    clear hO hy hyx hb
    go_wp2_with fail
    refine bodyPost_ret (v := .tuple #[.slice y.A y.xs.length y.c, .nilIface]) ?_ rfl (.inr ⟨Hi.out, y, rfl, Hyx.out, Hy.out, Hb.out⟩)
    simp [results, Tryz.results115, go_sem]

/-- what learn leaves -/
def MLearn (base m s g : Nat) (vs : List Value) (D : List E) (q : List (SlV E)) (k : Nat) (key : Int) (w : World) (e : Ending) (w' : World) : Prop :=
  ∃ y : SlV E, e = .returned (.tuple #[(entC key D.length (refC D key)).val, .nilIface]) ∧ y.xs = (addC (q.getD k SlV.nil).xs (entC key D.length (refC D key))).1 ∧ MeshO base w' m s g vs D (q.set k y) ∧ Fr (fun i => i = g) w w' ∧ ∀ i, foot y.val = some i → w.heap.size ≤ i
theorem atS_now {D : List E} {key : Int} (hk : keyB key = true) : atS (lsOf D) D.length key D.length = (entC key D.length (refC D key), 0) := by
  rw [atS_r, ratS, if_pos ⟨hk, by omega, by omega⟩, Int.toNat_natCast, List.take_length]
set_option maxHeartbeats 8000000 in
set_option maxRecDepth 100000 in
theorem mlearn_any (k : Nat) (key : Int) (w : World) (hB : base ≤ w.heap.size) (h : MeshO base w m s g vs D q) (hk : k < q.length) (hkey : keyB key = true) :
    Calls Tryz.prog 133 #[.pointer (some ⟨m, 0, none⟩), .int .i64 k, .int .i64 key] w (MLearn base m s g vs D q k key w) := by
  have HRd := hid (fun W (hW : Below w.heap.size w W) => sread_any base s key vs (lsOf D) D.length W (h.st.belowS hW) h.stp)
  rw [atS_now hkey] at HRd
  have HM := hid (fun W (hW : Below w.heap.size w W) => h.belowS hW)
  have hmem := List.getElem_mem hk
  have hcd := h.cac _ hmem
  have hnow : TrueD D (entC key D.length (refC D key)) := TrueD.now hkey
  obtain ⟨ha0, hac, -⟩ := hcd.add h.deeds hnow
  have hek : chk (entC key D.length (refC D key)) = 0 := hnow.chk h.deeds
  obtain ⟨hn8, -, hS, hK⟩ := chkC_ok hcd.1
  have hgd : q.getD k SlV.nil = q[k] := getD_get _ hk
  have c1 := h.c1
  have c0 := h.c0
  have hg := h.row.lt
  have hat := h.at hk
  have hown := h.own _ hmem
  have hkey8 := keyB_true.1 hkey
  unfold MLearn
  rw [hgd]
  generalize q[k] = c at *
  have hek0 : (entC key D.length (refC D key)).key = key := rfl
  generalize entC key D.length (refC D key) = x at *
  obtain ⟨x0, x1, x2, x3, x4⟩ := x
  simp only at hek0
  subst hek0
  have HAd := hid (fun W (hW : Below w.heap.size w W) => added_any c x0 x1 x2 x3 x4 W (chk_goodE hek) hkey8 (hown.es.stays hW) hS hK hn8)
  rw [ha0] at HAd
  have Hgood := hid (val_good hac.1)
  have Hac := hid hac
  generalize (addC c.xs ⟨x0, x1, x2, x3, x4⟩).1 = l2 at *
  simp only [E.val] at HRd ⊢
  rw [errV_zero] at HRd
  have hk0 : (0 : Int) ≤ (k : Int) := by omega
  have hkl : (k : Int) < (q.length : Int) := by omega
  have HB := hid hB
  have HC1 := hid (fun W (hW : Below w.heap.size w W) => (HM.out W hW).c1)
  have Hc0 := hid c0
  have Hat := hid (fun W (hW : Below w.heap.size w W) => show W.cell? ⟨g, k, none⟩ = some (.slice c.A c.xs.length c.c) from (hW.cell (p := ⟨g, k, none⟩) hg).trans hat)
  have hlm := h.lt
  have HP := hid (fun i (hi : MPart m s g vs q i) => (h.part hi).2)
  clear h hmem hcd hnow ha0 hac hek hS hK hgd hown hkey hat c1 hB
  go_enter Tryz.func133, Tryz.ntmps133
  go_wp2_with fail
  refine (HRd.out _ (by (repeat (first | with_reducible exact Below.refl _ _ | with_reducible assumption | (with_reducible refine Below.drew ?_) | (with_reducible refine Below.manyDrew ?_ _) | ((with_reducible refine Below.alloc ?_ ?_ _); rotate_left; (focus (first | omega | (dsimp only; omega) | (simp; done) | (simp; omega)))) | ((with_reducible refine Below.setCell ?_ ?_ _); rotate_left; (focus (first | omega | (dsimp only; omega) | (simp; done) | (simp; omega)))) | ((with_reducible refine Below.step ?_ (by assumption) ?_); rotate_left; (focus (first | omega | (dsimp only; omega) | (simp; done) | (simp; omega)))))))).mono ?_
  rintro e w1 ⟨rfl, hb1⟩
  have hB0 := (Blk.new w 59 #[.int .i64 0, .int .i64 0, .int .i64 0, .bool false, .string ⟨#[]⟩]).belowS hb1
  have hbw1 : Below w.heap.size w w1 := by (repeat (first | with_reducible exact Below.refl _ _ | with_reducible assumption | (with_reducible refine Below.drew ?_) | (with_reducible refine Below.manyDrew ?_ _) | ((with_reducible refine Below.alloc ?_ ?_ _); rotate_left; (focus (first | omega | (dsimp only; omega) | (simp; done) | (simp; omega)))) | ((with_reducible refine Below.setCell ?_ ?_ _); rotate_left; (focus (first | omega | (dsimp only; omega) | (simp; done) | (simp; omega)))) | ((with_reducible refine Below.step ?_ (by assumption) ?_); rotate_left; (focus (first | omega | (dsimp only; omega) | (simp; done) | (simp; omega))))))
  have hz1 := hbw1.size
  clear hb1 HRd
  go_upto_region 2 with fail
  obtain ⟨w2, hw2⟩ : ∃ W : World, W = w1.alloc (.cells #[.int .i64 x0, .int .i64 x1, .int .i64 x2, .bool x3, .string x4] 59) := ⟨_, rfl⟩
  rw [← hw2]
  have HX2 := hid (show Blk w2 w1.heap.size 59 #[.int .i64 x0, .int .i64 x1, .int .i64 x2, .bool x3, .string x4] by rw [hw2]; exact Blk.new _ _ _)
  have HZ2 := hid (show Blk w2 w.heap.size 59 #[.int .i64 0, .int .i64 0, .int .i64 0, .bool false, .string ⟨#[]⟩] by rw [hw2]; exact hB0.alloc _)
  have Hb2 := hid (show Below w.heap.size w w2 by rw [hw2]; exact hbw1.alloc hz1 _)
  have hz2 := Hb2.out.size
  have hlx := HX2.out.lt
  clear hw2 hB0 hbw1
  have d1 := HC1.out w2 Hb2.out
  have d2 := Hat.out w2 Hb2.out
  have e0 : w2.cell? ⟨w1.heap.size, 0, none⟩ = some (.int .i64 x0) := HX2.out.cell 0
  have e1 : w2.cell? ⟨w1.heap.size, 1, none⟩ = some (.int .i64 x1) := HX2.out.cell 1
  have e2 : w2.cell? ⟨w1.heap.size, 2, none⟩ = some (.int .i64 x2) := HX2.out.cell 2
  have e3 : w2.cell? ⟨w1.heap.size, 3, none⟩ = some (.bool x3) := HX2.out.cell 3
  have e4 : w2.cell? ⟨w1.heap.size, 4, none⟩ = some (.string x4) := HX2.out.cell 4
  have hg2 : g < w2.heap.size := by omega
  have hm2 : m < w2.heap.size := by omega
  go_upto_region 4 with fail
  go_cut [9, 10] (fun er t wx => er = .nilIface ∧ (∃ y : SlV E, t = .slice y.A y.xs.length y.c ∧ y.xs = l2 ∧ OwnC w2.heap.size wx y) ∧ Below w2.heap.size w2 wx)
  case first =>
    go_region_law (first | (go_simp; go_at_call 158; refine (HAd.out _ (Below.manyDrew Hb2.out 1)).mono ?_; rintro e wj ⟨vj, rfl, hOj, hbj⟩; have hbj2 : Below w2.heap.size w2 wj := (Below.manyDrew (Below.refl _ _) 1).trans hbj))
    all_goals
      rw [errV_zero]
      go_wp2_with fail
      go_meet
      obtain ⟨y, hy1, hy2, hy3⟩ := OwnC.of_ow (hOj.mono (Nat.le_refl _)) Hgood.out
      exact ⟨rfl, ⟨y, hy1, hy2, hy3⟩, hbj2⟩
  case rest =>
  obtain ⟨rfl, ⟨y, rfl, hyx, hy⟩, hb3⟩ := hcut
  obtain ⟨w3, rfl⟩ : ∃ w3 : World, w3 = wc := ⟨_, rfl⟩
  have HX3 := hid (HX2.out.belowS hb3)
  have HZ3 := hid (HZ2.out.belowS hb3)
  have Hb3 := hid (Below.step Hb2.out hb3 hz2)
  have hz3 := Hb3.out.size
  have d3 := HC1.out w3 Hb3.out
  have d4 := Hat.out w3 Hb3.out
  have hf4 := (HM.out w3 Hb3.out).row.frozen k
  have hyb : ∀ i, foot y.val = some i → w2.heap.size ≤ i := fun i hi => (hy.1.lt hi).1
  have Hyb := hid hyb
  have hfM := (HM.out w3 Hb3.out).put (k := k) (⟨hy.1.mono (Nat.le_trans HB.out hz2), hy.2⟩ : OwnC base w3 y) (by rw [hyx]; exact Hac.out)
  have hn1 : g ≠ w.heap.size := by omega
  have hn2 : g ≠ w1.heap.size := by omega
  have HfM := hid hfM
  have Hyx := hid hyx
  have hg3 : g < w3.heap.size := by omega
  have HX4 := hid (HX3.out.far (p := ⟨g, k, none⟩) hn2.symm y.val)
  have HZ4 := hid (HZ3.out.far (p := ⟨g, k, none⟩) hn1.symm y.val)
  have HF4 := hid (show Fr (fun i => i = g) w (w3.setCell ⟨g, k, none⟩ y.val) from (show Fr (fun i => i = g) w w3 from Fr.ofB Hb3.out).setCell (p := ⟨g, k, none⟩) (.inl rfl) _)
  clear hb3 hfM hy hyx hyb d1 d2 e0 e1 e2 e3 e4
  go_upto_region 8 with fail
  obtain ⟨w4, hw4⟩ : ∃ W : World, W = w3.setCell ⟨g, k, none⟩ y.val := ⟨_, rfl⟩
  rw [show (Value.slice y.A y.xs.length y.c) = y.val from rfl, ← hw4]
  rw [← hw4] at HfM HX4 HZ4 HF4
  have hX4 := HX4.out
  have hZ4 := HZ4.out
  have e0 : w4.cell? ⟨w1.heap.size, 0, none⟩ = some (.int .i64 x0) := hX4.cell 0
  have e1 : w4.cell? ⟨w1.heap.size, 1, none⟩ = some (.int .i64 x1) := hX4.cell 1
  have e2 : w4.cell? ⟨w1.heap.size, 2, none⟩ = some (.int .i64 x2) := hX4.cell 2
  have e3 : w4.cell? ⟨w1.heap.size, 3, none⟩ = some (.bool x3) := hX4.cell 3
  have e4 : w4.cell? ⟨w1.heap.size, 4, none⟩ = some (.string x4) := hX4.cell 4
  have y0 : w4.cell? ⟨w.heap.size, 0, none⟩ = some (.int .i64 0) := hZ4.cell 0
  have y1 : w4.cell? ⟨w.heap.size, 1, none⟩ = some (.int .i64 0) := hZ4.cell 1
  have y2 : w4.cell? ⟨w.heap.size, 2, none⟩ = some (.int .i64 0) := hZ4.cell 2
  have y3 : w4.cell? ⟨w.heap.size, 3, none⟩ = some (.bool false) := hZ4.cell 3
  have y4 : w4.cell? ⟨w.heap.size, 4, none⟩ = some (.string ⟨#[]⟩) := hZ4.cell 4
  have f0 := hZ4.frozen 0
  have f1 := hZ4.frozen 1
  have f2 := hZ4.frozen 2
  have f3 := hZ4.frozen 3
  have f4 := hZ4.frozen 4
  have hl4 := hX4.lt
  have hl5 := hZ4.lt
  clear hw4 d3 d4 hX4 hZ4
  go_wp2_with fail
  refine bodyPost_ret (v := .tuple #[.agg #[.int .i64 x0, .int .i64 x1, .int .i64 x2, .bool x3, .string x4], .nilIface]) ?_ rfl ⟨y, rfl, Hyx.out, ?_, ?_, fun i hi => Nat.le_trans hz2 (Hyb.out i hi)⟩
  · exact results_box Tryz.results133 rfl (Blk.put5 HZ4.out _ _ _ _ _) Tryz.underlying59 rfl (by kernel_rfl)
  · have hF : Fr (fun i => i = w.heap.size) w4 _ := ((((((Fr.refl (fun i => i = w.heap.size) w4).setCell (p := ⟨w.heap.size, 0, none⟩) (.inl rfl) (.int .i64 x0)).setCell (p := ⟨w.heap.size, 1, none⟩) (.inl rfl) (.int .i64 x1)).setCell (p := ⟨w.heap.size, 2, none⟩) (.inl rfl) (.int .i64 x2)).setCell (p := ⟨w.heap.size, 3, none⟩) (.inl rfl) (.bool x3)).setCell (p := ⟨w.heap.size, 4, none⟩) (.inl rfl) (.string x4))
    refine HfM.out.fr hF (fun i hi e => ?_)
    rcases hi.set with hi | hi
    · have := HP.out i hi; omega
    · have := Hyb.out i hi; omega
  · exact (((((HF4.out.setCell (p := ⟨w.heap.size, 0, none⟩) (.inr (Nat.le_refl _)) _).setCell (p := ⟨w.heap.size, 1, none⟩) (.inr (Nat.le_refl _)) _).setCell (p := ⟨w.heap.size, 2, none⟩) (.inr (Nat.le_refl _)) _).setCell (p := ⟨w.heap.size, 3, none⟩) (.inr (Nat.le_refl _)) _).setCell (p := ⟨w.heap.size, 4, none⟩) (.inr (Nat.le_refl _)) _)
end
end Go.Proofs.YtemhdfodghfkfaaGreatDoor
namespace Go.Proofs.YtemhdfodghfkfaaGreatDoor
open Go.RowKit
open Go.ChangeShapes Go.WideShapes Go.ChangeAt

/-- a deed: refused, or one more -/
def DeedR (D : List E) (key : Int) (r : (Int × Int) × List E) : Prop :=
  (r.1.2 ≠ 0 ∧ r.1.1 = 0 ∧ r.2 = D) ∨ (r.1.2 = 0 ∧ keyB key = true ∧ (∃ x, r.2 = D ++ x) ∧ Deeds r.2)
theorem Deeds.snoc {D : List E} (h : Deeds D) {e : E} (hk : keyB e.key = true) (ht : e.text.size ≤ 12) (hg : e.gone = true → e.text.toList = []) (hl : D.length < 1000) : Deeds (D ++ [e]) := by
  refine ⟨fun x hx => ?_, fun x hx => ?_, fun x hx => ?_, by rw [List.length_append, List.length_singleton]; omega⟩
  · rcases List.mem_append.1 hx with hx | hx
    · exact h.key x hx
    · rw [List.mem_singleton.1 hx]; exact hk
  · rcases List.mem_append.1 hx with hx | hx
    · exact h.text x hx
    · rw [List.mem_singleton.1 hx]; exact ht
  · rcases List.mem_append.1 hx with hx | hx
    · exact h.gone x hx
    · rw [List.mem_singleton.1 hx]; exact hg
theorem rdone_deed {D : List E} (h : Deeds D) {key : Int} (hk : keyB key = true) {g : Bool} {t : ByteArray} (ht : t.size ≤ 12) (hg : g = true → t.toList = []) : DeedR D key (rdone D ⟨key, 0, 0, g, t⟩) := by
  unfold rdone
  split
  · exact .inl ⟨by show (4 : Int) ≠ 0; decide, rfl, rfl⟩
  · rename_i hl
    exact .inr ⟨rfl, hk, ⟨_, rfl⟩, h.snoc hk ht hg (by have := h.len; omega)⟩
theorem rput_deed {D : List E} (h : Deeds D) (key : Int) (t : ByteArray) : DeedR D key (rput D key t) := by
  unfold rput
  split
  · rename_i hk
    split
    · exact .inl ⟨by show (4 : Int) ≠ 0; decide, rfl, rfl⟩
    · exact rdone_deed h hk (by omega) (fun h => by cases h)
  · exact .inl ⟨by show (1 : Int) ≠ 0; decide, rfl, rfl⟩
theorem rdel_deed {D : List E} (h : Deeds D) (key : Int) : DeedR D key (rdel D key) := by
  unfold rdel
  split
  · rename_i hk
    split
    · exact .inl ⟨by show (5 : Int) ≠ 0; decide, rfl, rfl⟩
    · exact rdone_deed h hk (by decide) (fun _ => by decide +kernel)
  · exact .inl ⟨by show (1 : Int) ≠ 0; decide, rfl, rfl⟩
theorem not_fs {base s : Nat} {w : World} {vs : List Value} {ls : List (List Ch)} {n : Int} (h : StoreO base w s vs ls n) {b : Nat} {T : TypeId} {cs : Array Value} (hB : Blk w b T cs) (h1 : T ≠ 134) (h2 : 209 ≠ T) : ¬ FS s vs b := by
  rintro (rfl | ⟨j, hj, hf⟩)
  · exact h1 (hB.eq_ h.blk).2
  · exact (h.own j hj).apartB hB h2 hf.symm rfl
theorem tyM6 : (27 : TypeId) ≠ 134 := by decide
/-- behind a deed of the store -/
theorem MeshO.deed {base m s g : Nat} {w w' : World} {vs vs' : List Value} {D D' : List E} {q : List (SlV E)} (h : MeshO base w m s g vs D q) (hF : Fr (FS s vs) w w') (hO : StoreO base w' s vs' (lsOf D') D'.length) (hP : StP (lsOf D') D'.length) (hD : ∃ x, D' = D ++ x) (hDD : Deeds D') : MeshO base w' m s g vs' D' q := by
  refine ⟨h.blk.fr hF (not_fs h.st h.blk tyM3 tyM5), hO, hP, h.row.fr hF (not_fs h.st h.row tyM4 tyR2), fun c hc => ?_, fun c hc => (h.cac c hc).more hD, hDD, h.six, h.bm, h.bg⟩
  refine ⟨(h.own c hc).1.fr hF (fun i hi hs => ?_), (h.own c hc).2⟩
  obtain ⟨cur, hB⟩ := (h.own c hc).1.typ hi
  exact not_fs h.st hB tyM2 tyM1.symm hs
/-- what is learnt -/
def learnC (C : List (List E)) (k : Nat) (key : Int) (D : List E) : List (List E) := C.set k (addC (C.getD k []) (entC key D.length (refC D key))).1
/-- what a deed of a node leaves -/
def MDo (base m s g : Nat) (vs : List Value) (q : List (SlV E)) (node key : Int) (r : (Int × Int) × List E) (w : World) (e : Ending) (w' : World) : Prop :=
  ∃ vs' q', e = .returned (.tuple #[.int .i64 r.1.1, errV r.1.2]) ∧ MeshO base w' m s g vs' r.2 q' ∧ Fr (MPart m s g vs q) w w' ∧ (∀ i, MPart m s g vs' q' i → MPart m s g vs q i ∨ w.heap.size ≤ i) ∧
    q'.map SlV.xs = if r.1.2 = 0 then learnC (q.map SlV.xs) node.toNat key r.2 else q.map SlV.xs
def mdoR (len : Nat) (D : List E) (node : Int) (r : (Int × Int) × List E) : (Int × Int) × List E := if inM len node = true then r else ((0, 1), D)
theorem mpart_fs {m s g : Nat} {vs : List Value} {q : List (SlV E)} {i : Nat} (h : FS s vs i) : MPart m s g vs q i := by
  rcases h with rfl | ⟨j, hj, hf⟩
  · exact .inr (.inl rfl)
  · exact .inr (.inr (.inr (.inl ⟨j, hj, hf.symm⟩)))
theorem mpart_vs {m s g : Nat} {vs vs' : List Value} {q : List (SlV E)} {i : Nat} {N : Nat} (hv : ∀ i, FS s vs' i → FS s vs i ∨ N ≤ i) (h : MPart m s g vs' q i) : MPart m s g vs q i ∨ N ≤ i := by
  rcases h with h | h | h | ⟨k, hk, hf⟩ | h
  · exact .inl (.inl h)
  · exact .inl (.inr (.inl h))
  · exact .inl (.inr (.inr (.inl h)))
  · exact (hv i (.inr ⟨k, hk, hf.symm⟩)).imp mpart_fs (fun h => h)
  · exact .inl (.inr (.inr (.inr (.inr h))))
theorem map_getD (q : List (SlV E)) (k : Nat) : (q.map SlV.xs).getD k [] = (q.getD k SlV.nil).xs := by
  rw [List.getD_eq_getElem?_getD, List.getD_eq_getElem?_getD, List.getElem?_map]
  cases q[k]? <;> rfl
section
variable {base m s g : Nat} {vs : List Value} {D : List E} {q : List (SlV E)}
/-- the closure does its deed -/
def DoesR (base s : Nat) (vs : List Value) (D : List E) (caps : Array Value) (F : Nat) (r : (Int × Int) × List E) (w : World) : Prop :=
  ∀ W, Below w.heap.size w W → StoreO base W s vs (lsOf D) D.length → Calls Tryz.prog F caps W (SRes base s vs W (r.1, lsOf r.2, (r.2.length : Int)))
set_option maxHeartbeats 4000000 in
set_option maxRecDepth 100000 in
theorem mdo_put (node key : Int) (caps : Array Value) (r : (Int × Int) × List E) (w : World) (hB : base ≤ w.heap.size) (h : MeshO base w m s g vs D q) (hr : DeedR D key r) (hC : DoesR base s vs D caps 107 r w) :
    Calls Tryz.prog 106 #[.pointer (some ⟨m, 0, none⟩), .int .i64 node, .int .i64 key, .func (.func 107) #[] caps] w (MDo base m s g vs q node key (mdoR q.length D node r) w) := by
  have HN := hid (mnode_any node w h)
  rcases hi : inM q.length node with _ | _
  · rw [mdoR, hi, if_neg (by decide)]
    rw [hi] at HN
    have HM := hid h
    clear hi h hC hr
    go_enter Tryz.func106, Tryz.ntmps106
    go_wp2_with fail
    refine HN.out.mono ?_
    rintro e w1 ⟨rfl, rfl⟩
    go_wp2_with fail
    go_ret2
    exact ⟨vs, q, by rw [errV_ne (show ((((0 : Int), (1 : Int)), D) : (Int × Int) × List E).1.2 ≠ 0 from by show (1 : Int) ≠ 0; decide)]; rfl, HM.out, Fr.refl _ _, fun i hi => .inl hi, by rw [if_neg (show ¬ ((((0 : Int), (1 : Int)), D) : (Int × Int) × List E).1.2 = 0 from by show ¬ (1 : Int) = 0; decide)]⟩
  · rw [mdoR, hi, if_pos rfl]
    rw [hi] at HN
    obtain ⟨h0, h1⟩ := inM_true.1 hi
    obtain ⟨k, rfl⟩ := Int.eq_ofNat_of_zero_le h0
    have hk : k < q.length := by omega
    have HM := hid h
    have HC := hid (hC w (Below.refl _ _) h.st)
    obtain ⟨⟨rn, re⟩, D'⟩ := r
    rcases hr with ⟨r1, r2, r3⟩ | ⟨r1, r2, r3, r4⟩
    · simp only at r1 r2 r3
      subst r2 r3
      have Hre := hid (errV_ne r1)
      have Hr1 := hid r1
      clear hi h hC r1
      go_enter Tryz.func106, Tryz.ntmps106
      go_wp2_with fail
      refine HN.out.mono ?_
      rintro e w1 ⟨rfl, rfl⟩
      go_wp2_with fail
      refine HC.out.mono ?_
      rintro e w2 ⟨vs', rfl, hO, hP, hF, hv⟩
      simp only at hO hP
      have HM2 := hid (HM.out.deed hF hO hP ⟨[], by simp⟩ HM.out.deeds)
      have HF := hid (hF.mono (fun i _ h => mpart_fs (m := m) (g := g) (q := q) h))
      have Hv := hid hv
      simp only
      rw [Hre.out]
      clear hO hP hF hv
      go_wp2_with fail
      go_ret2
      exact ⟨vs', q, by rw [Hre.out]; rfl, HM2.out, HF.out, fun i hi => mpart_vs Hv.out hi, by rw [if_neg Hr1.out]⟩
    · simp only at r1 r3 r4
      subst r1
      have Hr3 := hid r3
      have Hr4 := hid r4
      have Hr2 := hid r2
      clear hi h hC r3 r4 r2
      go_enter Tryz.func106, Tryz.ntmps106
      go_wp2_with fail
      refine HN.out.mono ?_
      rintro e w1 ⟨rfl, rfl⟩
      go_wp2_with fail
      refine HC.out.mono ?_
      rintro e w2 ⟨vs', rfl, hO, hP, hF, hv⟩
      simp only at hO hP
      have hM2 := HM.out.deed hF hO hP Hr3.out Hr4.out
      have HM2 := hid hM2
      have HF := hid (hF.mono (fun i _ h => mpart_fs (m := m) (g := g) (q := q) h))
      have Hv := hid hv
      have hz2 := hF.size
      have HL := hid (mlearn_any k key w2 (Nat.le_trans hB hz2) hM2 hk Hr2.out)
      unfold MLearn at HL
      generalize hx : entC key (D'.length : Int) (refC D' key) = x at HL
      have Hx := hid hx
      obtain ⟨x0, x1, x2, x3, x4⟩ := x
      simp only [E.val] at HL
      simp only
      rw [errV_zero]
      clear hO hP hF hv hM2 hx
      go_wp2_with fail
      refine HL.out.mono ?_
      rintro e w3 ⟨y, rfl, hyx, hM3, hF3, hyb⟩
      have HM3 := hid hM3
      have HF3 := hid (HF.out.step (hF3.mono (fun i _ h => show MPart m s g vs q i from .inr (.inr (.inl h)))))
      have Hyx := hid hyx
      have Hyb := hid hyb
      clear hyx hM3 hF3 hyb HL
      go_wp2_with fail
      go_ret2
      refine ⟨vs', q.set k y, rfl, HM3.out, HF3.out, fun i hi => ?_, ?_⟩
      · rcases hi.set with hi | hi
        · exact mpart_vs Hv.out hi
        · exact .inr (by have := Hyb.out i hi; omega)
      · rw [if_pos rfl, learnC, Int.toNat_natCast, map_getD, Hx.out, ← Hyx.out, List.map_set]
set_option maxHeartbeats 4000000 in
set_option maxRecDepth 100000 in
theorem mdo_del (node key : Int) (caps : Array Value) (r : (Int × Int) × List E) (w : World) (hB : base ≤ w.heap.size) (h : MeshO base w m s g vs D q) (hr : DeedR D key r) (hC : DoesR base s vs D caps 109 r w) :
    Calls Tryz.prog 106 #[.pointer (some ⟨m, 0, none⟩), .int .i64 node, .int .i64 key, .func (.func 109) #[] caps] w (MDo base m s g vs q node key (mdoR q.length D node r) w) := by
  have HN := hid (mnode_any node w h)
  rcases hi : inM q.length node with _ | _
  · rw [mdoR, hi, if_neg (by decide)]
    rw [hi] at HN
    have HM := hid h
    clear hi h hC hr
    go_enter Tryz.func106, Tryz.ntmps106
    go_wp2_with fail
    refine HN.out.mono ?_
    rintro e w1 ⟨rfl, rfl⟩
    go_wp2_with fail
    go_ret2
    exact ⟨vs, q, by rw [errV_ne (show ((((0 : Int), (1 : Int)), D) : (Int × Int) × List E).1.2 ≠ 0 from by show (1 : Int) ≠ 0; decide)]; rfl, HM.out, Fr.refl _ _, fun i hi => .inl hi, by rw [if_neg (show ¬ ((((0 : Int), (1 : Int)), D) : (Int × Int) × List E).1.2 = 0 from by show ¬ (1 : Int) = 0; decide)]⟩
  · rw [mdoR, hi, if_pos rfl]
    rw [hi] at HN
    obtain ⟨h0, h1⟩ := inM_true.1 hi
    obtain ⟨k, rfl⟩ := Int.eq_ofNat_of_zero_le h0
    have hk : k < q.length := by omega
    have HM := hid h
    have HC := hid (hC w (Below.refl _ _) h.st)
    obtain ⟨⟨rn, re⟩, D'⟩ := r
    rcases hr with ⟨r1, r2, r3⟩ | ⟨r1, r2, r3, r4⟩
    · simp only at r1 r2 r3
      subst r2 r3
      have Hre := hid (errV_ne r1)
      have Hr1 := hid r1
      clear hi h hC r1
      go_enter Tryz.func106, Tryz.ntmps106
      go_wp2_with fail
      refine HN.out.mono ?_
      rintro e w1 ⟨rfl, rfl⟩
      go_wp2_with fail
      refine HC.out.mono ?_
      rintro e w2 ⟨vs', rfl, hO, hP, hF, hv⟩
      simp only at hO hP
      have HM2 := hid (HM.out.deed hF hO hP ⟨[], by simp⟩ HM.out.deeds)
      have HF := hid (hF.mono (fun i _ h => mpart_fs (m := m) (g := g) (q := q) h))
      have Hv := hid hv
      simp only
      rw [Hre.out]
      clear hO hP hF hv
      go_wp2_with fail
      go_ret2
      exact ⟨vs', q, by rw [Hre.out]; rfl, HM2.out, HF.out, fun i hi => mpart_vs Hv.out hi, by rw [if_neg Hr1.out]⟩
    · simp only at r1 r3 r4
      subst r1
      have Hr3 := hid r3
      have Hr4 := hid r4
      have Hr2 := hid r2
      clear hi h hC r3 r4 r2
      go_enter Tryz.func106, Tryz.ntmps106
      go_wp2_with fail
      refine HN.out.mono ?_
      rintro e w1 ⟨rfl, rfl⟩
      go_wp2_with fail
      refine HC.out.mono ?_
      rintro e w2 ⟨vs', rfl, hO, hP, hF, hv⟩
      simp only at hO hP
      have hM2 := HM.out.deed hF hO hP Hr3.out Hr4.out
      have HM2 := hid hM2
      have HF := hid (hF.mono (fun i _ h => mpart_fs (m := m) (g := g) (q := q) h))
      have Hv := hid hv
      have hz2 := hF.size
      have HL := hid (mlearn_any k key w2 (Nat.le_trans hB hz2) hM2 hk Hr2.out)
      unfold MLearn at HL
      generalize hx : entC key (D'.length : Int) (refC D' key) = x at HL
      have Hx := hid hx
      obtain ⟨x0, x1, x2, x3, x4⟩ := x
      simp only [E.val] at HL
      simp only
      rw [errV_zero]
      clear hO hP hF hv hM2 hx
      go_wp2_with fail
      refine HL.out.mono ?_
      rintro e w3 ⟨y, rfl, hyx, hM3, hF3, hyb⟩
      have HM3 := hid hM3
      have HF3 := hid (HF.out.step (hF3.mono (fun i _ h => show MPart m s g vs q i from .inr (.inr (.inl h)))))
      have Hyx := hid hyx
      have Hyb := hid hyb
      clear hyx hM3 hF3 hyb HL
      go_wp2_with fail
      go_ret2
      refine ⟨vs', q.set k y, rfl, HM3.out, HF3.out, fun i hi => ?_, ?_⟩
      · rcases hi.set with hi | hi
        · exact mpart_vs Hv.out hi
        · exact .inr (by have := Hyb.out i hi; omega)
      · rw [if_pos rfl, learnC, Int.toNat_natCast, map_getD, Hx.out, ← Hyx.out, List.map_set]
end
end Go.Proofs.YtemhdfodghfkfaaGreatDoor
namespace Go.Proofs.YtemhdfodghfkfaaGreatDoor
open Go.RowKit
open Go.ChangeShapes Go.WideShapes Go.ChangeAt

theorem MDo.up {base m s g : Nat} {vs : List Value} {q : List (SlV E)} {node key : Int} {r : (Int × Int) × List E} {w w1 : World} {e : Ending} {w' : World} (h : MDo base m s g vs q node key r w1 e w') (hb : Below w.heap.size w w1) : MDo base m s g vs q node key r w e w' := by
  obtain ⟨vs', q', h1, h2, h3, h4, h5⟩ := h
  exact ⟨vs', q', h1, h2, (Fr.ofB hb).step h3, fun i hi => (h4 i hi).imp (fun h => h) (fun h => Nat.le_trans hb.size h), h5⟩
section
variable {base m s g : Nat} {vs : List Value} {D : List E} {q : List (SlV E)}
set_option maxHeartbeats 2000000 in
theorem mput1_does (key : Int) (t : ByteArray) (ht : t.size ≤ maxLen) (bm bk bt : Nat) (w : World) (h : MeshO base w m s g vs D q) (h0 : w.cell? ⟨bm, 0, none⟩ = some (.pointer (some ⟨m, 0, none⟩))) (h1 : w.cell? ⟨bk, 0, none⟩ = some (.int .i64 key)) (h2 : w.cell? ⟨bt, 0, none⟩ = some (.string t)) (l0 : bm < w.heap.size) (l1 : bk < w.heap.size) (l2 : bt < w.heap.size) :
    DoesR base s vs D #[.pointer (some ⟨bm, 0, none⟩), .pointer (some ⟨bk, 0, none⟩), .pointer (some ⟨bt, 0, none⟩)] 107 (rput D key t) w := by
  intro W hW hO
  have HP := hid (fun X (hX : Below W.heap.size W X) => sput_any base s key t ht vs (lsOf D) D.length X (hO.belowS hX) h.stp)
  rw [sput_r] at HP
  have c0 := (hW.cell (p := ⟨bm, 0, none⟩) l0).trans h0
  have c1 := (hW.cell (p := ⟨bk, 0, none⟩) l1).trans h1
  have c2 := (hW.cell (p := ⟨bt, 0, none⟩) l2).trans h2
  have c3 := (hW.cell (p := ⟨m, 0, none⟩) h.lt).trans h.c0
  have hz := hW.size
  have hl := h.lt
  clear h h0 h1 h2 hO hW
  go_enter Tryz.func107, Tryz.ntmps107
  go_upto_region 1 with fail
  go_cut [3, 4] (fun a b wx => SRes base s vs W ((rput D key t).1, lsOf (rput D key t).2, ((rput D key t).2.length : Int)) (.returned (.tuple #[a, b])) wx)
  case first =>
    go_region_law (first | (go_simp; go_at_call 108; refine (HP.out _ (Below.manyDrew (Below.refl _ _) 1)).mono ?_; intro e wj hj; have hj2 := srec hj (Below.manyDrew (Below.refl _ _) 1); obtain ⟨vs', rfl, j1, j2, j3, j4⟩ := hj2))
    all_goals
      go_wp2_with fail
      go_meet
      exact ⟨vs', rfl, j1, j2, j3, j4⟩
  case rest =>
  obtain ⟨vs', he, j1, j2, j3, j4⟩ := hcut
  injection he with he
  injection he with he
  obtain ⟨rfl, rfl⟩ : _ ∧ _ := by simpa using he
  go_wp2_with fail
  go_ret2
  exact ⟨vs', rfl, j1, j2, j3, j4⟩
set_option maxHeartbeats 2000000 in
theorem meshput_any (node key : Int) (t : ByteArray) (ht : t.size ≤ maxLen) (w : World) (hB : base ≤ w.heap.size) (h : MeshO base w m s g vs D q) :
    Calls Tryz.prog 75 #[.pointer (some ⟨m, 0, none⟩), .int .i64 node, .int .i64 key, .string t] w (MDo base m s g vs q node key (mdoR q.length D node (rput D key t)) w) := by
  obtain ⟨w1, hw1⟩ : ∃ W : World, W = ((w.alloc (.cells #[.pointer (some ⟨m, 0, none⟩)] 66)).alloc (.cells #[.int .i64 key] 3)).alloc (.cells #[.string t] 9) := ⟨_, rfl⟩
  have hb1 : Below w.heap.size w w1 := by rw [hw1]; exact (((Below.refl _ _).alloc (Nat.le_refl _) _).alloc (by simp) _).alloc (by simp; omega) _
  have hz1 : w1.heap.size = w.heap.size + 3 := by rw [hw1]; simp
  have B0 : Blk w1 w.heap.size 66 #[.pointer (some ⟨m, 0, none⟩)] := by rw [hw1]; exact ((Blk.new _ _ _).alloc _).alloc _
  have B1 : Blk w1 (w.heap.size + 1) 3 #[.int .i64 key] := by rw [hw1]; exact (Blk.new_at (by simp)).alloc _
  have B2 : Blk w1 (w.heap.size + 2) 9 #[.string t] := by rw [hw1]; exact Blk.new_at (by simp)
  have hM1 := h.belowS hb1
  have hD := mput1_does key t ht w.heap.size (w.heap.size + 1) (w.heap.size + 2) w1 hM1 (B0.cell 0) (B1.cell 0) (B2.cell 0) (by omega) (by omega) (by omega)
  have HD := hid (mdo_put node key _ _ w1 (by omega) hM1 (rput_deed h.deeds key t) hD)
  have Hb1 := hid hb1
  have Hw1 := hid hw1
  have c0 := B0.cell 0
  have c1 := B1.cell 0
  have c2 := B2.cell 0
  have l0 : w.heap.size < w1.heap.size := by omega
  have l1 : w.heap.size + 1 < w1.heap.size := by omega
  have l2 : w.heap.size + 2 < w1.heap.size := by omega
  clear h hb1 hz1 B0 B1 B2 hM1 hD hw1
  go_enter Tryz.func75, Tryz.ntmps75
  go_upto_region 1 with fail
  rw [← Hw1.out]
  go_wp2_with fail
  refine HD.out.mono ?_
  intro e w2 h2
  obtain ⟨vs', q', rfl, h3⟩ := h2.up Hb1.out
  go_wp2_with fail
  go_ret2
  exact ⟨vs', q', rfl, h3⟩
end
end Go.Proofs.YtemhdfodghfkfaaGreatDoor
namespace Go.Proofs.YtemhdfodghfkfaaGreatDoor
open Go.RowKit
open Go.ChangeShapes Go.WideShapes Go.ChangeAt

section
variable {base m s g : Nat} {vs : List Value} {D : List E} {q : List (SlV E)}
/-- what may be asked -/
def askB (len dl : Nat) (node key fl : Int) : Bool := inM len node && keyB key && decide (0 ≤ fl) && decide (fl ≤ (dl : Int))
theorem askB_true {len dl : Nat} {node key fl : Int} : askB len dl node key fl = true ↔ inM len node = true ∧ keyB key = true ∧ 0 ≤ fl ∧ fl ≤ (dl : Int) := by simp [askB, and_assoc]

set_option maxHeartbeats 4000000 in
theorem mget_bad (node key fl : Int) (w : World) (h : MeshO base w m s g vs D q) (ha : askB q.length D.length node key fl = false) :
    Calls Tryz.prog 111 #[.pointer (some ⟨m, 0, none⟩), .int .i64 node, .int .i64 key, .int .i64 fl] w fun e w' => e = .returned (.tuple #[.agg #[.int .i64 0, .int .i64 0, .int .i64 0, .bool false, .string ⟨#[]⟩], .bool false, .iface 78 (.int .i64 1)]) ∧ Below w.heap.size w w' := by
  have HN := hid (fun W (hW : Below w.heap.size w W) => mnode_any node W (h.belowS hW))
  have HS := hid (fun W (hW : Below w.heap.size w W) => sseq_any base s vs (lsOf D) D.length W (h.belowS hW).st)
  have hc0 := h.c0
  have hl := h.lt
  have hd0 : (D.length : Int) ≤ 1000 := by have := h.deeds.len; omega
  have HB0 := hid (Blk.new w 59 #[.int .i64 0, .int .i64 0, .int .i64 0, .bool false, .string ⟨#[]⟩])
  clear h
  rcases (show inM q.length node = false ∨ (inM q.length node = true ∧ keyB key = false) ∨ (inM q.length node = true ∧ keyB key = true ∧ fl < 0) ∨ (inM q.length node = true ∧ keyB key = true ∧ ¬ fl < 0 ∧ (D.length : Int) < fl) by
    rcases h1 : inM q.length node with _ | _
    · exact .inl rfl
    · rcases h2 : keyB key with _ | _
      · exact .inr (.inl ⟨rfl, rfl⟩)
      · by_cases h3 : fl < 0
        · exact .inr (.inr (.inl ⟨rfl, rfl, h3⟩))
        · refine .inr (.inr (.inr ⟨rfl, rfl, h3, ?_⟩))
          by_cases h4 : fl ≤ (D.length : Int)
          · rw [askB_true.2 ⟨h1, h2, by omega, h4⟩] at ha; cases ha
          · omega) with h1 | ⟨h1, h2⟩ | ⟨h1, h2, h3⟩ | ⟨h1, h2, h3, h4⟩
  all_goals
    rw [h1] at HN
    clear ha h1
    try (have H2 := hid h2; clear h2)
    go_enter Tryz.func111, Tryz.ntmps111
    go_wp2_with (first
      | (go_at_call 113; refine (HN.out _ (by (repeat (first | with_reducible exact Below.refl _ _ | with_reducible assumption | (with_reducible refine Below.drew ?_) | (with_reducible refine Below.manyDrew ?_ _) | ((with_reducible refine Below.alloc ?_ ?_ _); rotate_left; (focus (first | omega | (dsimp only; omega) | (simp; done) | (simp; omega)))) | ((with_reducible refine Below.setCell ?_ ?_ _); rotate_left; (focus (first | omega | (dsimp only; omega) | (simp; done) | (simp; omega)))) | ((with_reducible refine Below.step ?_ (by assumption) ?_); rotate_left; (focus (first | omega | (dsimp only; omega) | (simp; done) | (simp; omega)))))))).mono ?_; rintro e wn ⟨rfl, rfl⟩)
      | (go_at_call 134; refine (key_any _ _).mono ?_; rintro e wn ⟨rfl, rfl⟩; rw [H2.out])
      | (go_at_call 118; refine (HS.out _ (by (repeat (first | with_reducible exact Below.refl _ _ | with_reducible assumption | (with_reducible refine Below.drew ?_) | (with_reducible refine Below.manyDrew ?_ _) | ((with_reducible refine Below.alloc ?_ ?_ _); rotate_left; (focus (first | omega | (dsimp only; omega) | (simp; done) | (simp; omega)))) | ((with_reducible refine Below.setCell ?_ ?_ _); rotate_left; (focus (first | omega | (dsimp only; omega) | (simp; done) | (simp; omega)))) | ((with_reducible refine Below.step ?_ (by assumption) ?_); rotate_left; (focus (first | omega | (dsimp only; omega) | (simp; done) | (simp; omega)))))))).mono ?_; rintro e wn ⟨rfl, rfl⟩))
    refine bodyPost_ret (v := .tuple #[.agg #[.int .i64 0, .int .i64 0, .int .i64 0, .bool false, .string ⟨#[]⟩], .bool false, .iface 78 (.int .i64 1)]) ?_ rfl ⟨rfl, by (repeat (first | with_reducible exact Below.refl _ _ | with_reducible assumption | (with_reducible refine Below.drew ?_) | (with_reducible refine Below.manyDrew ?_ _) | ((with_reducible refine Below.alloc ?_ ?_ _); rotate_left; (focus (first | omega | (dsimp only; omega) | (simp; done) | (simp; omega)))) | ((with_reducible refine Below.setCell ?_ ?_ _); rotate_left; (focus (first | omega | (dsimp only; omega) | (simp; done) | (simp; omega)))) | ((with_reducible refine Below.step ?_ (by assumption) ?_); rotate_left; (focus (first | omega | (dsimp only; omega) | (simp; done) | (simp; omega))))))⟩
    exact results_boxT Tryz.results111 rfl HB0.out Tryz.underlying59 rfl (by kernel_rfl)

set_option maxHeartbeats 8000000 in
set_option maxRecDepth 100000 in
theorem mget_hit (n : Nat) (key fl : Int) (x : E) (w : World) (h : MeshO base w m s g vs D q) (hn : n < q.length) (hkey : keyB key = true) (hf0 : 0 ≤ fl) (hfl : fl ≤ (D.length : Int)) (hx : lk q[n].xs key = some x) (hxf : fl ≤ x.asof) :
    Calls Tryz.prog 111 #[.pointer (some ⟨m, 0, none⟩), .int .i64 n, .int .i64 key, .int .i64 fl] w fun e w' => e = .returned (.tuple #[x.val, .bool true, .nilIface]) ∧ Below w.heap.size w w' := by
  have HN := hid (fun W (hW : Below w.heap.size w W) => mnode_any n W (h.belowS hW))
  rw [show inM q.length (n : Int) = true from inM_true.2 ⟨by omega, by omega⟩] at HN
  have HS := hid (fun W (hW : Below w.heap.size w W) => sseq_any base s vs (lsOf D) D.length W (h.belowS hW).st)
  have HM := hid (fun W (hW : Below w.heap.size w W) => h.belowS hW)
  have hmem := List.getElem_mem hn
  have hcd := h.cac _ hmem
  obtain ⟨hn8, -, hS, hK⟩ := chkC_ok hcd.1
  have hown := h.own _ hmem
  have hat := h.at hn
  have hc0 := h.c0
  have hc1 := h.c1
  have hl := h.lt
  have hg := h.row.lt
  rw [at_lk (val_iff.1 hcd.1).1] at hx
  generalize q[n] = c at *
  have hhk : hasK key c.xs = true := by
    rcases hh : hasK key c.xs with _ | _
    · rw [hh, if_neg (by decide)] at hx; cases hx
    · rfl
  rw [if_pos hhk] at hx
  injection hx with hx
  have hp : plc key c.xs < c.xs.length := by
    unfold hasK at hhk
    simp at hhk
    exact hhk.1
  have HP := hid (fun W (hW : Below w.heap.size w W) => place_any key c W (hown.es.stays hW).entries hS hK (keyB_true.1 hkey) hn8)
  rw [hhk] at HP
  obtain ⟨cb, co, hcA, hcb, hcells⟩ := hown.es.row (by omega)
  have hE := hcells _ hp
  rw [hx] at hE
  have HE := hid (fun W (hW : Below w.heap.size w W) => hE.stays hW hcb)
  have hcl : c.xs.length ≤ 8 := hn8
  have Hkey := hid hkey
  obtain ⟨x0, x1, x2, x3, x4⟩ := x
  simp only at hxf
  generalize plc key c.xs = p at *
  have hd0 : (D.length : Int) ≤ 1000 := by have := h.deeds.len; omega
  have hq6 := h.six
  have hnq : (n : Int) < (q.length : Int) := by omega
  have hpl : (p : Int) < (c.xs.length : Int) := by omega
  have HAt := hid (fun W (hW : Below w.heap.size w W) => show W.cell? ⟨g, n, none⟩ = some (.slice (some ⟨cb, co, none⟩) c.xs.length c.c) from by rw [← hcA]; exact (hW.cell (p := ⟨g, n, none⟩) hg).trans hat)
  have HC1 := hid (fun W (hW : Below w.heap.size w W) => (HM.out W hW).c1)
  have HC0 := hid (fun W (hW : Below w.heap.size w W) => (HM.out W hW).c0)
  rw [hcA] at HP
  clear h hmem hcd hS hK hown hat hhk hx hE hcells hkey hc0 hc1 hcA
  go_enter Tryz.func111, Tryz.ntmps111
  go_upto_region 1 with fail
  obtain ⟨w1, hw1⟩ : ∃ W : World, W = w.alloc (.cells #[.int .i64 0, .int .i64 0, .int .i64 0, .bool false, .string ⟨#[]⟩] 59) := ⟨_, rfl⟩
  rw [← hw1]
  have HZ1 := hid (show Blk w1 w.heap.size 59 #[.int .i64 0, .int .i64 0, .int .i64 0, .bool false, .string ⟨#[]⟩] by rw [hw1]; exact Blk.new _ _ _)
  have Hb1 := hid (show Below w.heap.size w w1 by rw [hw1]; exact (Below.refl _ _).alloc (Nat.le_refl _) _)
  have hz1 := Hb1.out.size
  have hlz := HZ1.out.lt
  clear hw1
  go_cut [36] (fun t wx => t = .bool false ∧ wx = w1)
  case first =>
    have d0 := HC0.out w1 Hb1.out
    have hm1 : m < w1.heap.size := by omega
    have hnl : ¬ fl < 0 := by omega
    have hnl2 : ¬ (D.length : Int) < fl := by omega
    go_wp2_with (first
      | (go_at_call 113; refine (HN.out _ Hb1.out).mono ?_; rintro e wn ⟨rfl, rfl⟩)
      | (go_at_call 134; refine (key_any _ _).mono ?_; rintro e wn ⟨rfl, rfl⟩; rw [Hkey.out])
      | (go_at_call 118; refine (HS.out _ Hb1.out).mono ?_; rintro e wn ⟨rfl, rfl⟩))
    go_meet
    exact ⟨by first | rfl | (congr 1; simp; omega), rfl⟩
  case rest =>
  obtain ⟨rfl, hwc⟩ := hcut
  obtain rfl : w1 = wc := hwc.symm
  have d1 := HC1.out w1 Hb1.out
  have d2 := HAt.out w1 Hb1.out
  have hm1 : m < w1.heap.size := by omega
  have hg1 : g < w1.heap.size := by omega
  have HP1 := hid (HP.out w1 Hb1.out)
  clear HP HN HS
  go_wp2_with fail
  refine HP1.out.mono ?_
  rintro e w2 ⟨rfl, hb2⟩
  have Hb2 := hid (Below.step Hb1.out hb2 hz1)
  have hz2 := Hb2.out.size
  have HZ2 := hid (HZ1.out.belowS hb2)
  have hZ2 := HZ2.out
  have hl2 := hZ2.lt
  have d1 := HC1.out w2 Hb2.out
  have d2 := HAt.out w2 Hb2.out
  have hm2 : m < w2.heap.size := by omega
  have hg2 : g < w2.heap.size := by omega
  have hc2 : cb < w2.heap.size := by omega
  obtain ⟨k0, k1, k2, k3, k4⟩ := HE.out w2 Hb2.out
  simp only at k0 k1 k2 k3 k4
  have y0 : w2.cell? ⟨w.heap.size, 0, none⟩ = some (.int .i64 0) := hZ2.cell 0
  have y1 : w2.cell? ⟨w.heap.size, 1, none⟩ = some (.int .i64 0) := hZ2.cell 1
  have y2 : w2.cell? ⟨w.heap.size, 2, none⟩ = some (.int .i64 0) := hZ2.cell 2
  have y3 : w2.cell? ⟨w.heap.size, 3, none⟩ = some (.bool false) := hZ2.cell 3
  have y4 : w2.cell? ⟨w.heap.size, 4, none⟩ = some (.string ⟨#[]⟩) := hZ2.cell 4
  have f0 := hZ2.frozen 0
  have f1 := hZ2.frozen 1
  have f2 := hZ2.frozen 2
  have f3 := hZ2.frozen 3
  have f4 := hZ2.frozen 4
  clear hb2 HP1 hZ2 hm1 hg1
  go_wp2_with fail
  refine bodyPost_ret (v := .tuple #[.agg #[.int .i64 x0, .int .i64 x1, .int .i64 x2, .bool x3, .string x4], .bool true, .nilIface]) ?_ rfl ⟨rfl, by have := Hb2.out; (repeat (first | with_reducible exact Below.refl _ _ | with_reducible assumption | (with_reducible refine Below.drew ?_) | (with_reducible refine Below.manyDrew ?_ _) | ((with_reducible refine Below.alloc ?_ ?_ _); rotate_left; (focus (first | omega | (dsimp only; omega) | (simp; done) | (simp; omega)))) | ((with_reducible refine Below.setCell ?_ ?_ _); rotate_left; (focus (first | omega | (dsimp only; omega) | (simp; done) | (simp; omega)))) | ((with_reducible refine Below.step ?_ (by assumption) ?_); rotate_left; (focus (first | omega | (dsimp only; omega) | (simp; done) | (simp; omega))))))⟩
  exact results_boxT Tryz.results111 rfl (Blk.put5 HZ2.out _ _ _ _ _) Tryz.underlying59 rfl (by kernel_rfl)

/-- what Get leaves where the store is read -/
def MMiss (base m s g : Nat) (vs : List Value) (D : List E) (q : List (SlV E)) (k : Nat) (key : Int) (w : World) (e : Ending) (w' : World) : Prop :=
  ∃ y : SlV E, e = .returned (.tuple #[(entC key D.length (refC D key)).val, .bool false, .nilIface]) ∧ y.xs = (addC (q.getD k SlV.nil).xs (entC key D.length (refC D key))).1 ∧ MeshO base w' m s g vs D (q.set k y) ∧ Fr (fun i => i = g) w w' ∧ ∀ i, foot y.val = some i → w.heap.size ≤ i

set_option maxHeartbeats 8000000 in
set_option maxRecDepth 100000 in
theorem mget_miss (n : Nat) (key fl : Int) (w : World) (hB : base ≤ w.heap.size) (h : MeshO base w m s g vs D q) (hn : n < q.length) (hkey : keyB key = true) (hf0 : 0 ≤ fl) (hfl : fl ≤ (D.length : Int)) (hx : ∀ x, lk q[n].xs key = some x → x.asof < fl) :
    Calls Tryz.prog 111 #[.pointer (some ⟨m, 0, none⟩), .int .i64 n, .int .i64 key, .int .i64 fl] w (MMiss base m s g vs D q n key w) := by
  have HN := hid (fun W (hW : Below w.heap.size w W) => mnode_any n W (h.belowS hW))
  rw [show inM q.length (n : Int) = true from inM_true.2 ⟨by omega, by omega⟩] at HN
  have HS := hid (fun W (hW : Below w.heap.size w W) => sseq_any base s vs (lsOf D) D.length W (h.belowS hW).st)
  have HM := hid (fun W (hW : Below w.heap.size w W) => h.belowS hW)
  have HPt := hid (fun i (hi : MPart m s g vs q i) => (h.part hi).2)
  have HL := hid (fun W (hW : Below w.heap.size w W) => mlearn_any n key W (Nat.le_trans hB hW.size) (h.belowS hW) hn hkey)
  have hmem := List.getElem_mem hn
  have hcd := h.cac _ hmem
  obtain ⟨hn8, -, hS, hK⟩ := chkC_ok hcd.1
  have hown := h.own _ hmem
  have hat := h.at hn
  have hl := h.lt
  have hg := h.row.lt
  have hd0 : (D.length : Int) ≤ 1000 := by have := h.deeds.len; omega
  have hq6 := h.six
  have hnq : (n : Int) < (q.length : Int) := by omega
  unfold MMiss
  unfold MLearn at HL
  generalize entC key (D.length : Int) (refC D key) = x at *
  obtain ⟨x0, x1, x2, x3, x4⟩ := x
  simp only [E.val] at HL ⊢
  have hxx := hx
  rw [at_lk (val_iff.1 hcd.1).1] at hxx
  have hgd : q.getD n SlV.nil = q[n] := getD_get _ hn
  have Hgd := hid hgd
  generalize q[n] = c at *
  have HP := hid (fun W (hW : Below w.heap.size w W) => place_any key c W (hown.es.stays hW).entries hS hK (keyB_true.1 hkey) hn8)
  have hfact : hasK key c.xs = false ∨ (hasK key c.xs = true ∧ ∃ cb co y, c.A = some ⟨cb, co, none⟩ ∧ cb < w.heap.size ∧ plc key c.xs < c.xs.length ∧ EAt w cb (co + plc key c.xs * 5) y ∧ y.asof < fl) := by
    rcases hh : hasK key c.xs with _ | _
    · exact .inl rfl
    · have hp : plc key c.xs < c.xs.length := by
        unfold hasK at hh
        simp at hh
        exact hh.1
      obtain ⟨cb, co, hcA, hcb, hcells⟩ := hown.es.row (by omega)
      exact .inr ⟨rfl, cb, co, _, hcA, hcb, hp, hcells _ hp, hxx _ (by rw [hh, if_pos rfl])⟩
  have HAt := hid (fun W (hW : Below w.heap.size w W) => show W.cell? ⟨g, n, none⟩ = some (.slice c.A c.xs.length c.c) from (hW.cell (p := ⟨g, n, none⟩) hg).trans hat)
  have HC1 := hid (fun W (hW : Below w.heap.size w W) => (HM.out W hW).c1)
  have HC0 := hid (fun W (hW : Below w.heap.size w W) => (HM.out W hW).c0)
  have Hkey := hid hkey
  have Hfact := hid hfact
  clear h hmem hcd hS hK hown hat hkey hx hxx hgd hfact
  go_enter Tryz.func111, Tryz.ntmps111
  go_upto_region 1 with fail
  obtain ⟨w1, hw1⟩ : ∃ W : World, W = w.alloc (.cells #[.int .i64 0, .int .i64 0, .int .i64 0, .bool false, .string ⟨#[]⟩] 59) := ⟨_, rfl⟩
  rw [← hw1]
  have HZ1 := hid (show Blk w1 w.heap.size 59 #[.int .i64 0, .int .i64 0, .int .i64 0, .bool false, .string ⟨#[]⟩] by rw [hw1]; exact Blk.new _ _ _)
  have Hb1 := hid (show Below w.heap.size w w1 by rw [hw1]; exact (Below.refl _ _).alloc (Nat.le_refl _) _)
  have hz1 := Hb1.out.size
  have hlz := HZ1.out.lt
  clear hw1
  go_cut [36] (fun t wx => t = .bool false ∧ wx = w1)
  case first =>
    have d0 := HC0.out w1 Hb1.out
    have hm1 : m < w1.heap.size := by omega
    have hnl : ¬ fl < 0 := by omega
    have hnl2 : ¬ (D.length : Int) < fl := by omega
    go_wp2_with (first
      | (go_at_call 113; refine (HN.out _ Hb1.out).mono ?_; rintro e wn ⟨rfl, rfl⟩)
      | (go_at_call 134; refine (key_any _ _).mono ?_; rintro e wn ⟨rfl, rfl⟩; rw [Hkey.out])
      | (go_at_call 118; refine (HS.out _ Hb1.out).mono ?_; rintro e wn ⟨rfl, rfl⟩))
    go_meet
    exact ⟨by first | rfl | (congr 1; simp; omega), rfl⟩
  case rest =>
  obtain ⟨rfl, hwc⟩ := hcut
  obtain rfl : w1 = wc := hwc.symm
  have d1 := HC1.out w1 Hb1.out
  have d2 := HAt.out w1 Hb1.out
  have hm1 : m < w1.heap.size := by omega
  have hg1 : g < w1.heap.size := by omega
  have HP1 := hid (HP.out w1 Hb1.out)
  clear HP HN HS
  go_wp2_with fail
  refine HP1.out.mono ?_
  rintro e w2 ⟨rfl, hb2⟩
  have Hb2 := hid (Below.step Hb1.out hb2 hz1)
  have hz2 := Hb2.out.size
  have HZ2 := hid (HZ1.out.belowS hb2)
  have hl2 := HZ2.out.lt
  have d1 := HC1.out w2 Hb2.out
  have d2 := HAt.out w2 Hb2.out
  have hm2 : m < w2.heap.size := by omega
  have hg2 : g < w2.heap.size := by omega
  obtain ⟨hb_, hhb⟩ : ∃ hb_, hasK key c.xs = hb_ := ⟨_, rfl⟩
  rw [hhb]
  have Hhb := hid hhb
  clear hb2 HP1 hm1 hg1 hhb
  go_upto_region 4 with fail
  go_cut [66] (fun t wx => t = .bool false ∧ wx = w2)
  case first =>
    rcases Hfact.out with h | ⟨h, cb, co, y, hcA, hcb, hp, hE, hy⟩
    · obtain rfl : hb_ = false := by rw [← Hhb.out, h]
      clear h
      go_wp2_with fail
      go_meet
      exact ⟨rfl, rfl⟩
    · obtain rfl : hb_ = true := by rw [← Hhb.out, h]
      obtain ⟨k0, k1, k2, k3, k4⟩ := hE.stays Hb2.out hcb
      have hc2 : cb < w2.heap.size := by omega
      have hpl : (plc key c.xs : Int) < (c.xs.length : Int) := by omega
      have hny : ¬ fl ≤ y.asof := by omega
      rw [hcA] at d2
      generalize plc key c.xs = p at *
      clear h hE hcA
      go_wp2_with fail
      go_meet
      exact ⟨rfl, rfl⟩
  case rest =>
  obtain ⟨rfl, hwc⟩ := hcut
  obtain rfl : w2 = wc := hwc.symm
  have HL2 := hid (HL.out w2 Hb2.out)
  clear d1 d2 HL Hfact
  go_wp2_with fail
  refine HL2.out.mono ?_
  rintro e w3 ⟨y, rfl, hyx, hM3, hF3, hyb⟩
  have HZ3 := hid (HZ2.out.fr hF3 (show ¬ w.heap.size = g by omega))
  have hb3w : Fr (fun i => i = g) w w3 := (Fr.ofB Hb2.out).step hF3
  have Hyx := hid hyx
  have HM3 := hid hM3
  have HF3 := hid hb3w
  have hz3 := hb3w.size
  have hfy : ∀ i, foot y.val = some i → w.heap.size < i := fun i hi => by have := hyb i hi; omega
  have Hfy := hid hfy
  clear hyx hM3 hF3 hb3w hfy hyb HL2
  go_upto_region 7 with fail
  obtain ⟨w4, hw4⟩ : ∃ W : World, W = w3.alloc (.cells #[.int .i64 x0, .int .i64 x1, .int .i64 x2, .bool x3, .string x4] 59) := ⟨_, rfl⟩
  rw [← hw4]
  have HX4 := hid (show Blk w4 w3.heap.size 59 #[.int .i64 x0, .int .i64 x1, .int .i64 x2, .bool x3, .string x4] by rw [hw4]; exact Blk.new _ _ _)
  have HZ4 := hid (show Blk w4 w.heap.size 59 #[.int .i64 0, .int .i64 0, .int .i64 0, .bool false, .string ⟨#[]⟩] by rw [hw4]; exact HZ3.out.alloc _)
  have HM4 := hid (show MeshO base w4 m s g vs D (q.set n y) by rw [hw4]; exact HM3.out.belowS ((Below.refl _ _).alloc (Nat.le_refl _) _))
  have HF4 := hid (show Fr (fun i => i = g) w w4 by rw [hw4]; exact HF3.out.alloc _)
  have hX4 := HX4.out
  have hZ4 := HZ4.out
  have e0 : w4.cell? ⟨w3.heap.size, 0, none⟩ = some (.int .i64 x0) := hX4.cell 0
  have e1 : w4.cell? ⟨w3.heap.size, 1, none⟩ = some (.int .i64 x1) := hX4.cell 1
  have e2 : w4.cell? ⟨w3.heap.size, 2, none⟩ = some (.int .i64 x2) := hX4.cell 2
  have e3 : w4.cell? ⟨w3.heap.size, 3, none⟩ = some (.bool x3) := hX4.cell 3
  have e4 : w4.cell? ⟨w3.heap.size, 4, none⟩ = some (.string x4) := hX4.cell 4
  have y0 : w4.cell? ⟨w.heap.size, 0, none⟩ = some (.int .i64 0) := hZ4.cell 0
  have y1 : w4.cell? ⟨w.heap.size, 1, none⟩ = some (.int .i64 0) := hZ4.cell 1
  have y2 : w4.cell? ⟨w.heap.size, 2, none⟩ = some (.int .i64 0) := hZ4.cell 2
  have y3 : w4.cell? ⟨w.heap.size, 3, none⟩ = some (.bool false) := hZ4.cell 3
  have y4 : w4.cell? ⟨w.heap.size, 4, none⟩ = some (.string ⟨#[]⟩) := hZ4.cell 4
  have f0 := hZ4.frozen 0
  have f1 := hZ4.frozen 1
  have f2 := hZ4.frozen 2
  have f3 := hZ4.frozen 3
  have f4 := hZ4.frozen 4
  have hl4 := hX4.lt
  have hl5 := hZ4.lt
  clear hw4 hX4 hZ4
  go_wp2_with fail
  refine bodyPost_ret (v := .tuple #[.agg #[.int .i64 x0, .int .i64 x1, .int .i64 x2, .bool x3, .string x4], .bool false, .nilIface]) ?_ rfl ⟨y, rfl, Hyx.out, ?_, ?_, fun i hi => Nat.le_of_lt (Hfy.out i hi)⟩
  · exact results_boxT Tryz.results111 rfl (Blk.put5 HZ4.out _ _ _ _ _) Tryz.underlying59 rfl (by kernel_rfl)
  · have hF : Fr (fun i => i = w.heap.size) w4 _ := ((((((Fr.refl (fun i => i = w.heap.size) w4).setCell (p := ⟨w.heap.size, 0, none⟩) (.inl rfl) (.int .i64 x0)).setCell (p := ⟨w.heap.size, 1, none⟩) (.inl rfl) (.int .i64 x1)).setCell (p := ⟨w.heap.size, 2, none⟩) (.inl rfl) (.int .i64 x2)).setCell (p := ⟨w.heap.size, 3, none⟩) (.inl rfl) (.bool x3)).setCell (p := ⟨w.heap.size, 4, none⟩) (.inl rfl) (.string x4))
    refine HM4.out.fr hF (fun i hi e => ?_)
    rcases hi.set with hi | hi
    · have := HPt.out i hi; omega
    · have := Hfy.out i hi; omega
  · exact (((((HF4.out.setCell (p := ⟨w.heap.size, 0, none⟩) (.inr (Nat.le_refl _)) _).setCell (p := ⟨w.heap.size, 1, none⟩) (.inr (Nat.le_refl _)) _).setCell (p := ⟨w.heap.size, 2, none⟩) (.inr (Nat.le_refl _)) _).setCell (p := ⟨w.heap.size, 3, none⟩) (.inr (Nat.le_refl _)) _).setCell (p := ⟨w.heap.size, 4, none⟩) (.inr (Nat.le_refl _)) _)
end
end Go.Proofs.YtemhdfodghfkfaaGreatDoor
namespace Go.Proofs.YtemhdfodghfkfaaGreatDoor
open Go.RowKit
open Go.ChangeShapes Go.WideShapes Go.ChangeAt

/-- caches that know nothing -/
def noneC (N : Nat) : List (SlV E) := List.replicate N ⟨none, 0, []⟩
theorem noneC_len (N : Nat) : (noneC N).length = N := List.length_replicate
theorem OwnC.none (base : Nat) (w : World) : OwnC base w ⟨none, 0, []⟩ := ⟨Ow.nil _ _ _ _ _, fun y hy => by cases hy⟩
theorem MeshO.mk0 {base : Nat} {X : World} {s g m N : Nat} (hN : N ≤ 6) (hst : StoreO base X s (List.replicate 8 nilS) (List.replicate 8 []) 0) (hrow : Blk X g 27 ((noneC N).map SlV.val).toArray) (hg : base ≤ g) (hm : m = X.heap.size) (hb : base ≤ X.heap.size) :
    MeshO base (X.alloc (.cells #[.pointer (some ⟨s, 0, none⟩), .slice (some ⟨g, 0, none⟩) N N] 97)) m s g (List.replicate 8 nilS) [] (noneC N) := by
  subst hm
  have hl := noneC_len N
  refine ⟨?_, hst.belowS ((Below.refl _ _).alloc (Nat.le_refl _) _), StP.new, hrow.alloc _, fun c hc => ?_, fun c hc => ?_, Deeds.nil, by rw [hl]; exact hN, hb, hg⟩
  · rw [hl]; exact Blk.new _ _ _
  · rw [(List.mem_replicate.1 hc).2]; exact OwnC.none _ _
  · rw [(List.mem_replicate.1 hc).2]; exact CacheD.nil _
/-- a mesh just made -/
def MNewR (w : World) (N : Nat) (v : Value) (w' : World) : Prop := ∃ m s g, v = .pointer (some ⟨m, 0, none⟩) ∧ MeshO w.heap.size w' m s g (List.replicate 8 nilS) [] (noneC N) ∧ Below w.heap.size w w'
theorem MNewR.one {w : World} {N s : Nat} {wj X : World} (hN : N ≤ 6) (hX : Below w.heap.size w X) (hO : StoreO X.heap.size wj s (List.replicate 8 nilS) (List.replicate 8 []) 0) (hb : Below X.heap.size X wj) {g m : Nat} (hg : g = wj.heap.size) (hm : m = wj.heap.size + 1) (cs : Array Value) (hcs : cs = ((noneC N).map SlV.val).toArray) :
    MNewR w N (.pointer (some ⟨m, 0, none⟩)) ((wj.alloc (.cells cs 27)).alloc (.cells #[.pointer (some ⟨s, 0, none⟩), .slice (some ⟨g, 0, none⟩) N N] 97)) := by
  subst hcs hg hm
  have hb2 := Below.step hX hb hX.size
  have hz := hb2.size
  exact ⟨_, s, _, rfl, MeshO.mk0 hN ((hO.monoB hX.size).belowS ((Below.refl _ _).alloc (Nat.le_refl _) _)) (Blk.new _ _ _) hz (by simp) (by simp; omega), (hb2.alloc hz _).alloc (by simp; omega) _⟩
theorem MNewR.two {w : World} {N s g : Nat} {wj X : World} {cs : Array Value} (hN : N ≤ 6) (hX : Below w.heap.size w X) (hcs : cs = ((noneC N).map SlV.val).toArray) (hrow : Blk X g 27 cs) {s0 : Nat} (hO : StoreO X.heap.size wj s0 (List.replicate 8 nilS) (List.replicate 8 []) 0) (hs0 : s = s0) (hb : Below X.heap.size X wj) (hgw : w.heap.size ≤ g) {m : Nat} (hm : m = wj.heap.size) :
    MNewR w N (.pointer (some ⟨m, 0, none⟩)) (wj.alloc (.cells #[.pointer (some ⟨s, 0, none⟩), .slice (some ⟨g, 0, none⟩) N N] 97)) := by
  subst hcs hm hs0
  have hb2 := Below.step hX hb hX.size
  have hz := hb2.size
  exact ⟨_, s, g, rfl, MeshO.mk0 hN (hO.monoB hX.size) (hrow.belowS hb) hgw rfl hz, hb2.alloc hz _⟩

theorem made_none {N : Nat} (h6 : N ≤ 6) : madeCells #[.slice none 0 0] N = ((noneC N).map SlV.val).toArray := by
  rcases (show N = 0 ∨ N = 1 ∨ N = 2 ∨ N = 3 ∨ N = 4 ∨ N = 5 ∨ N = 6 by omega) with rfl | rfl | rfl | rfl | rfl | rfl | rfl <;> kernel_rfl
set_option maxHeartbeats 4000000 in
theorem mnew_ok (N : Nat) (w : World) (h1 : 1 ≤ N) (h6 : N ≤ 6) :
    Calls Tryz.prog 23 #[.int .i64 N] w fun e w' => ∃ v, e = .returned (.tuple #[v, .nilIface]) ∧ MNewR w N v w' := by
  obtain ⟨i0, hi0, hz0, hzs, hzb⟩ := info_parts infoSE
  have hmk : ∀ W : World, (Instr.makeSlice 30 (.int .i64 (N : Int)) (.int .i64 (N : Int))).run Tryz.prog W = .ok (.slice (some ⟨W.heap.size, 0, none⟩) N N) (W.alloc (.cells (madeCells #[.slice none 0 0] N) 27)) := fun W => by
    have := run_make (P := Tryz.prog) W 30 27 i0 (.slice none 0 0) Tryz.underlying30 hi0 hz0 .i64 .i64 (N : Int) (N : Int) (by omega) (by omega) (by rw [hzb]; omega) (by omega)
    rw [Int.toNat_natCast, hzs, Nat.mul_one] at this
    exact this
  have hn1 : ¬ (N : Int) < 1 := by omega
  have hn6 : ¬ (6 : Int) < (N : Int) := by omega
  have H6 := hid h6
  have Hcs := hid (made_none h6)
  clear hi0 hz0 hzs hzb h1 h6
  go_enter Tryz.func23, Tryz.ntmps23
  go_upto_region 3 with fail
  go_cut [2, 3] (fun v er wx => er = .nilIface ∧ MNewR w N v wx)
  case first =>
    go_region_law (first | (go_simp; go_at_call 40; refine (snew_any _).mono ?_; rintro e wj ⟨rfl, hOj, hbj⟩; have hzj := hbj.size))
    · go_wp2_with fail
      go_meet
      exact ⟨rfl, MNewR.one (X := w.drew) H6.out ((Below.refl _ _).drew) hOj hbj rfl rfl _ Hcs.out⟩
    · go_wp2_with fail
      go_meet
      exact ⟨rfl, MNewR.two (X := (w.alloc (.cells (madeCells #[.slice none 0 0] N) 27)).drew) H6.out (((Below.refl _ _).alloc (Nat.le_refl _) _).drew) Hcs.out ((Blk.new w _ _).drew) hOj (by show _ = (w.alloc _).heap.size; simp) hbj (Nat.le_refl _) rfl⟩
  case rest =>
  obtain ⟨rfl, hM⟩ := hcut
  go_wp2_with fail
  go_ret2
  exact ⟨_, rfl, hM⟩
theorem mnew_bad (n : Int) (w : World) (h : n < 1 ∨ 6 < n) :
    Calls Tryz.prog 23 #[.int .i64 n] w fun e w' => e = .returned (.tuple #[.pointer none, .iface 78 (.int .i64 1)]) ∧ Below w.heap.size w w' := by
  rcases (show n < 1 ∨ (¬ n < 1 ∧ 6 < n) by omega) with h | ⟨h1, h⟩
  all_goals
    go_enter Tryz.func23, Tryz.ntmps23
    go_wp2_with fail
    go_ret2
    exact ⟨rfl, Below.refl _ _⟩
end Go.Proofs.YtemhdfodghfkfaaGreatDoor
namespace Go.Proofs.YtemhdfodghfkfaaGreatDoor
open Go.RowKit
open Go.ChangeShapes Go.WideShapes Go.ChangeAt

/-- a mesh at m with these deeds and caches, that lies apart from A -/
def MeshW (base : Nat) (w : World) (m : Nat) (D : List E) (C : List (List E)) (A : Nat → Prop) : Prop :=
  ∃ s g vs q, MeshO base w m s g vs D q ∧ q.map SlV.xs = C ∧ ∀ i, MPart m s g vs q i → ¬ A i
section
variable {base m : Nat} {w w' : World} {D : List E} {C : List (List E)} {A : Nat → Prop}
theorem MeshW.belowS (h : MeshW base w m D C A) (hb : Below w.heap.size w w') : MeshW base w' m D C A := by
  obtain ⟨s, g, vs, q, h1, h2, h3⟩ := h
  exact ⟨s, g, vs, q, h1.belowS hb, h2, h3⟩
theorem MeshW.fr {S : Nat → Prop} (h : MeshW base w m D C A) (hF : Fr S w w') (hS : ∀ i, S i → A i) : MeshW base w' m D C A := by
  obtain ⟨s, g, vs, q, h1, h2, h3⟩ := h
  exact ⟨s, g, vs, q, h1.fr hF (fun i hi hs => h3 i hi (hS i hs)), h2, h3⟩
/-- what was made since then lies apart, too -/
theorem MeshW.avoid (h : MeshW base w m D C A) (hb : Below w.heap.size w w') : MeshW base w' m D C (fun i => A i ∨ (w.heap.size ≤ i ∧ i < w'.heap.size)) := by
  obtain ⟨s, g, vs, q, h1, h2, h3⟩ := h
  refine ⟨s, g, vs, q, h1.belowS hb, h2, fun i hi hA => ?_⟩
  rcases hA with hA | hA
  · exact h3 i hi hA
  · have := (h1.part hi).2; omega
theorem MeshW.less {A' : Nat → Prop} (h : MeshW base w m D C A) (hA : ∀ i, A' i → A i) : MeshW base w m D C A' := by
  obtain ⟨s, g, vs, q, h1, h2, h3⟩ := h
  exact ⟨s, g, vs, q, h1, h2, fun i hi ha => h3 i hi (hA i ha)⟩
theorem MeshW.deeds (h : MeshW base w m D C A) : Deeds D := by
  obtain ⟨s, g, vs, q, h1, h2, h3⟩ := h
  exact h1.deeds
theorem MeshW.six (h : MeshW base w m D C A) : C.length ≤ 6 := by
  obtain ⟨s, g, vs, q, h1, h2, h3⟩ := h
  rw [← h2, List.length_map]
  exact h1.six
theorem MeshW.cac (h : MeshW base w m D C A) : ∀ c ∈ C, CacheD D c := by
  obtain ⟨s, g, vs, q, h1, h2, h3⟩ := h
  intro c hc
  rw [← h2] at hc
  obtain ⟨x, hx, rfl⟩ := List.mem_map.1 hc
  exact h1.cac x hx
theorem MeshW.lt (h : MeshW base w m D C A) : base ≤ m ∧ m < w.heap.size ∧ ¬ A m := by
  obtain ⟨s, g, vs, q, h1, h2, h3⟩ := h
  exact ⟨h1.bm, h1.lt, h3 m (.inl rfl)⟩
end
/-- what an operation may touch -/
def MTouch (base : Nat) (A : Nat → Prop) (i : Nat) : Prop := base ≤ i ∧ ¬ A i
theorem MNewR.meshW {w w' : World} {N : Nat} {v : Value} (h : MNewR w N v w') : ∃ m, v = .pointer (some ⟨m, 0, none⟩) ∧ MeshW w.heap.size w' m [] (List.replicate N []) (fun i => i < w.heap.size) ∧ Below w.heap.size w w' := by
  obtain ⟨m, s, g, rfl, hM, hb⟩ := h
  refine ⟨m, rfl, ⟨s, g, _, _, hM, ?_, fun i hi ha => ?_⟩, hb⟩
  · unfold noneC
    rw [List.map_replicate]
  · have := (hM.part hi).1
    omega
section
variable {base m : Nat} {D : List E} {C : List (List E)} {A : Nat → Prop}
theorem mputW (node key : Int) (t : ByteArray) (ht : t.size ≤ maxLen) (w : World) (h : MeshW base w m D C A) (hA : ∀ i, A i → i < w.heap.size) (hB : base ≤ w.heap.size) :
    Calls Tryz.prog 75 #[.pointer (some ⟨m, 0, none⟩), .int .i64 node, .int .i64 key, .string t] w fun e w' =>
      e = .returned (.tuple #[.int .i64 (mdoR C.length D node (rput D key t)).1.1, errV (mdoR C.length D node (rput D key t)).1.2]) ∧
      MeshW base w' m (mdoR C.length D node (rput D key t)).2 (if (mdoR C.length D node (rput D key t)).1.2 = 0 then learnC C node.toNat key (mdoR C.length D node (rput D key t)).2 else C) A ∧ Fr (MTouch base A) w w' := by
  obtain ⟨s, g, vs, q, h1, h2, h3⟩ := h
  have hl : C.length = q.length := by rw [← h2, List.length_map]
  rw [hl]
  refine (meshput_any node key t ht w hB h1).mono ?_
  rintro e w' ⟨vs', q', rfl, j1, j2, j3, j4⟩
  refine ⟨rfl, ⟨s, g, vs', q', j1, by rw [j4, h2], fun i hi ha => ?_⟩, j2.mono (fun i _ hi => ⟨(h1.part hi).1, h3 i hi⟩)⟩
  rcases j3 i hi with hi | hi
  · exact h3 i hi ha
  · have := hA i ha; omega
/-- what Get tells, and the caches behind it -/
def mgetR (D : List E) (C : List (List E)) (node key fl : Int) : (E × Bool × Int) × List (List E) :=
  if askB C.length D.length node key fl = true then
    match lk (C.getD node.toNat []) key with
    | some x => if fl ≤ x.asof then ((x, true, 0), C) else ((entC key D.length (refC D key), false, 0), learnC C node.toNat key D)
    | none => ((entC key D.length (refC D key), false, 0), learnC C node.toNat key D)
  else ((E.zero, false, 1), C)
theorem mgetW (node key fl : Int) (w : World) (h : MeshW base w m D C A) (hA : ∀ i, A i → i < w.heap.size) (hB : base ≤ w.heap.size) :
    Calls Tryz.prog 111 #[.pointer (some ⟨m, 0, none⟩), .int .i64 node, .int .i64 key, .int .i64 fl] w fun e w' =>
      e = .returned (.tuple #[(mgetR D C node key fl).1.1.val, .bool (mgetR D C node key fl).1.2.1, errV (mgetR D C node key fl).1.2.2]) ∧
      MeshW base w' m D (mgetR D C node key fl).2 A ∧ Fr (MTouch base A) w w' := by
  obtain ⟨s, g, vs, q, h1, h2, h3⟩ := h
  have hl : C.length = q.length := by rw [← h2, List.length_map]
  rcases ha : askB C.length D.length node key fl with _ | _
  · rw [mgetR, ha, if_neg (by decide)]
    rw [hl] at ha
    refine (mget_bad node key fl w h1 ha).mono ?_
    rintro e w' ⟨rfl, hb⟩
    exact ⟨by simp only; rw [errV_ne (by decide)]; rfl, ⟨s, g, vs, q, h1.belowS hb, h2, h3⟩, Fr.ofB hb⟩
  · rw [mgetR, ha, if_pos rfl]
    obtain ⟨i1, i2, i3, i4⟩ := askB_true.1 ha
    obtain ⟨n0, n1⟩ := inM_true.1 i1
    obtain ⟨n, rfl⟩ := Int.eq_ofNat_of_zero_le n0
    rw [Int.toNat_natCast]
    have hn : n < q.length := by omega
    have hc : C.getD n [] = q[n].xs := by rw [← h2, map_getD, getD_get _ hn]
    have hmiss : (∀ x, lk q[n].xs key = some x → x.asof < fl) → Calls Tryz.prog 111 #[.pointer (some ⟨m, 0, none⟩), .int .i64 n, .int .i64 key, .int .i64 fl] w fun e w' =>
        e = .returned (.tuple #[(entC key D.length (refC D key)).val, .bool false, .nilIface]) ∧ MeshW base w' m D (learnC C n key D) A ∧ Fr (MTouch base A) w w' := fun hx => by
      refine (mget_miss n key fl w hB h1 hn i2 i3 i4 hx).mono ?_
      rintro e w' ⟨y, rfl, hyx, hM, hF, hyb⟩
      refine ⟨rfl, ⟨s, g, vs, _, hM, ?_, fun i hi ha => ?_⟩, hF.mono (fun i _ hi => by rw [hi]; exact ⟨h1.bg, h3 g (.inr (.inr (.inl rfl)))⟩)⟩
      · rw [learnC, List.map_set, h2, ← h2, map_getD, ← hyx]
      · rcases hi.set with hi | hi
        · exact h3 i hi ha
        · have := hyb i hi
          have := hA i ha
          omega
    rw [hc]
    cases hlk : lk q[n].xs key with
    | none => exact hmiss (fun x hx => by rw [hlk] at hx; cases hx)
    | some x =>
      simp only
      by_cases hf : fl ≤ x.asof
      · rw [if_pos hf]
        refine (mget_hit n key fl x w h1 hn i2 i3 i4 hlk hf).mono ?_
        rintro e w' ⟨rfl, hb⟩
        exact ⟨rfl, ⟨s, g, vs, q, h1.belowS hb, h2, h3⟩, Fr.ofB hb⟩
      · rw [if_neg hf]
        exact hmiss (fun y hy => by rw [hlk] at hy; cases hy; omega)
theorem mcacheW (node : Int) (w : World) (h : MeshW base w m D C A) :
    Calls Tryz.prog 115 #[.pointer (some ⟨m, 0, none⟩), .int .i64 node] w fun e w' =>
      (∃ y : SlV E, e = .returned (.tuple #[.slice y.A y.xs.length y.c, errV (if inM C.length node = true then 0 else 1)]) ∧ y.xs = (if inM C.length node = true then C.getD node.toNat [] else []) ∧ OwnC w.heap.size w' y) ∧ Below w.heap.size w w' := by
  obtain ⟨s, g, vs, q, h1, h2, h3⟩ := h
  have hl : C.length = q.length := by rw [← h2, List.length_map]
  refine (mcache_any node w h1).mono ?_
  rintro e w' (⟨i1, rfl, hb⟩ | ⟨i1, y, rfl, hy, ho, hb⟩)
  · rw [hl, i1]
    exact ⟨⟨⟨none, 0, []⟩, by rw [if_neg (by decide), errV_ne (by decide)]; rfl, by rw [if_neg (by decide)], OwnC.none _ _⟩, hb⟩
  · rw [hl, i1]
    exact ⟨⟨y, by rw [if_pos rfl, errV_zero], by rw [if_pos rfl, hy, ← h2, map_getD], ho⟩, hb⟩
end
end Go.Proofs.YtemhdfodghfkfaaGreatDoor
namespace Go.Proofs.YtemhdfodghfkfaaGreatDoor
open Go.RowKit
open Go.ChangeShapes Go.WideShapes Go.ChangeAt

section
variable {base m s g : Nat} {vs : List Value} {D : List E} {q : List (SlV E)}
set_option maxHeartbeats 2000000 in
theorem mdel1_does (key : Int) (bm bk : Nat) (w : World) (h : MeshO base w m s g vs D q) (h0 : w.cell? ⟨bm, 0, none⟩ = some (.pointer (some ⟨m, 0, none⟩))) (h1 : w.cell? ⟨bk, 0, none⟩ = some (.int .i64 key)) (l0 : bm < w.heap.size) (l1 : bk < w.heap.size) :
    DoesR base s vs D #[.pointer (some ⟨bm, 0, none⟩), .pointer (some ⟨bk, 0, none⟩)] 109 (rdel D key) w := by
  intro W hW hO
  have HP := hid (fun X (hX : Below W.heap.size W X) => sdel_any base s key vs (lsOf D) D.length X (hO.belowS hX) h.stp)
  rw [sdel_r] at HP
  have c0 := (hW.cell (p := ⟨bm, 0, none⟩) l0).trans h0
  have c1 := (hW.cell (p := ⟨bk, 0, none⟩) l1).trans h1
  have c3 := (hW.cell (p := ⟨m, 0, none⟩) h.lt).trans h.c0
  have hz := hW.size
  have hl := h.lt
  clear h h0 h1 hO hW
  go_enter Tryz.func109, Tryz.ntmps109
  go_upto_region 1 with fail
  go_cut [2, 3] (fun a b wx => SRes base s vs W ((rdel D key).1, lsOf (rdel D key).2, ((rdel D key).2.length : Int)) (.returned (.tuple #[a, b])) wx)
  case first =>
    go_region_law (first | (go_simp; go_at_call 110; refine (HP.out _ (Below.manyDrew (Below.refl _ _) 1)).mono ?_; intro e wj hj; have hj2 := srec hj (Below.manyDrew (Below.refl _ _) 1); obtain ⟨vs', rfl, j1, j2, j3, j4⟩ := hj2))
    all_goals
      go_wp2_with fail
      go_meet
      exact ⟨vs', rfl, j1, j2, j3, j4⟩
  case rest =>
  obtain ⟨vs', he, j1, j2, j3, j4⟩ := hcut
  injection he with he
  injection he with he
  obtain ⟨rfl, rfl⟩ : _ ∧ _ := by simpa using he
  go_wp2_with fail
  go_ret2
  exact ⟨vs', rfl, j1, j2, j3, j4⟩
set_option maxHeartbeats 2000000 in
theorem meshdel_any (node key : Int) (w : World) (hB : base ≤ w.heap.size) (h : MeshO base w m s g vs D q) :
    Calls Tryz.prog 76 #[.pointer (some ⟨m, 0, none⟩), .int .i64 node, .int .i64 key] w (MDo base m s g vs q node key (mdoR q.length D node (rdel D key)) w) := by
  obtain ⟨w1, hw1⟩ : ∃ W : World, W = (w.alloc (.cells #[.pointer (some ⟨m, 0, none⟩)] 66)).alloc (.cells #[.int .i64 key] 3) := ⟨_, rfl⟩
  have hb1 : Below w.heap.size w w1 := by rw [hw1]; exact ((Below.refl _ _).alloc (Nat.le_refl _) _).alloc (by simp) _
  have hz1 : w1.heap.size = w.heap.size + 2 := by rw [hw1]; simp
  have B0 : Blk w1 w.heap.size 66 #[.pointer (some ⟨m, 0, none⟩)] := by rw [hw1]; exact (Blk.new _ _ _).alloc _
  have B1 : Blk w1 (w.heap.size + 1) 3 #[.int .i64 key] := by rw [hw1]; exact Blk.new_at (by simp)
  have hM1 := h.belowS hb1
  have hD := mdel1_does key w.heap.size (w.heap.size + 1) w1 hM1 (B0.cell 0) (B1.cell 0) (by omega) (by omega)
  have HD := hid (mdo_del node key _ _ w1 (by omega) hM1 (rdel_deed h.deeds key) hD)
  have Hb1 := hid hb1
  have Hw1 := hid hw1
  have c0 := B0.cell 0
  have c1 := B1.cell 0
  have l0 : w.heap.size < w1.heap.size := by omega
  have l1 : w.heap.size + 1 < w1.heap.size := by omega
  clear h hb1 hz1 B0 B1 hM1 hD hw1
  go_enter Tryz.func76, Tryz.ntmps76
  go_upto_region 1 with fail
  rw [← Hw1.out]
  go_wp2_with fail
  refine HD.out.mono ?_
  intro e w2 h2
  obtain ⟨vs', q', rfl, h3⟩ := h2.up Hb1.out
  go_wp2_with fail
  go_ret2
  exact ⟨vs', q', rfl, h3⟩
end
theorem mdelW {base m : Nat} {D : List E} {C : List (List E)} {A : Nat → Prop} (node key : Int) (w : World) (h : MeshW base w m D C A) (hA : ∀ i, A i → i < w.heap.size) (hB : base ≤ w.heap.size) :
    Calls Tryz.prog 76 #[.pointer (some ⟨m, 0, none⟩), .int .i64 node, .int .i64 key] w fun e w' =>
      e = .returned (.tuple #[.int .i64 (mdoR C.length D node (rdel D key)).1.1, errV (mdoR C.length D node (rdel D key)).1.2]) ∧
      MeshW base w' m (mdoR C.length D node (rdel D key)).2 (if (mdoR C.length D node (rdel D key)).1.2 = 0 then learnC C node.toNat key (mdoR C.length D node (rdel D key)).2 else C) A ∧ Fr (MTouch base A) w w' := by
  obtain ⟨s, g, vs, q, h1, h2, h3⟩ := h
  have hl : C.length = q.length := by rw [← h2, List.length_map]
  rw [hl]
  refine (meshdel_any node key w hB h1).mono ?_
  rintro e w' ⟨vs', q', rfl, j1, j2, j3, j4⟩
  refine ⟨rfl, ⟨s, g, vs', q', j1, by rw [j4, h2], fun i hi ha => ?_⟩, j2.mono (fun i _ hi => ⟨(h1.part hi).1, h3 i hi⟩)⟩
  rcases j3 i hi with hi | hi
  · exact h3 i hi ha
  · have := hA i ha; omega
end Go.Proofs.YtemhdfodghfkfaaGreatDoor
namespace Go.Proofs.YtemhdfodghfkfaaGreatDoor
open Go.RowKit
open Go.ChangeShapes Go.WideShapes Go.ChangeAt

theorem mseqW {base m : Nat} {D : List E} {C : List (List E)} {A : Nat → Prop} (w : World) (h : MeshW base w m D C A) :
    Calls Tryz.prog 81 #[.pointer (some ⟨m, 0, none⟩)] w fun e w' => e = .returned (.int .i64 D.length) ∧ w = w' := by
  obtain ⟨s, g, vs, q, h1, h2, h3⟩ := h
  have c0 := h1.c0
  have hl := h1.lt
  have HS := hid (sseq_any base s vs (lsOf D) D.length w h1.st)
  clear h1 h2 h3
  go_enter Tryz.func81, Tryz.ntmps81
  go_wp2_with fail
  refine HS.out.mono ?_
  rintro e w1 ⟨rfl, rfl⟩
  go_wp2_with fail
  go_ret
  exact ⟨rfl, rfl⟩
end Go.Proofs.YtemhdfodghfkfaaGreatDoor
