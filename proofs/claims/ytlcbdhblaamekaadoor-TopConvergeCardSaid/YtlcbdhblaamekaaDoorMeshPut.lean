/-
  CONTRACTS of mesh.do and of what is done: Put, Delete. CONDITIONS: none.
  CONTRACTS of mesh.Put and mesh.Delete. CONDITIONS: none.
-/
import Derived.Test.YtlcbdhblaamekaaDoorMesh
namespace Go.Proofs.YtlcbdhblaamekaaDoor
open Go.RowKit
open Go.ChangeShapes Go.WideShapes Go.ChangeAt

/-- a deed: refused, or one more -/
def DeedR (D : List E) (key : Int) (r : (Int × Int) × List E) : Prop :=
  (r.1.2 ≠ 0 ∧ r.1.1 = 0 ∧ r.2 = D) ∨ (r.1.2 = 0 ∧ keyB key = true ∧ (∃ x, r.2 = D ++ x) ∧ Deeds r.2)
theorem Deeds.snoc {D : List E} (h : Deeds D) {e : E} (hk : keyB e.key = true) (ht : e.text.size ≤ 12) (hg : e.gone = true → e.text.toList = []) (hl : D.length < 1000) : Deeds (D ++ [e]) := by
  refine ⟨fun x hx => ?_, fun x hx => ?_, fun x hx => ?_, by rw [List.length_append, List.length_singleton]; omega⟩
  · rcases List.mem_append.1 hx with hx | hx
    · exact h.key x hx
    · rw [List.mem_singleton.1 hx]; exact hk
  · rcases List.mem_append.1 hx with hx | hx
    · exact h.text x hx
    · rw [List.mem_singleton.1 hx]; exact ht
  · rcases List.mem_append.1 hx with hx | hx
    · exact h.gone x hx
    · rw [List.mem_singleton.1 hx]; exact hg
theorem rdone_deed {D : List E} (h : Deeds D) {key : Int} (hk : keyB key = true) {g : Bool} {t : ByteArray} (ht : t.size ≤ 12) (hg : g = true → t.toList = []) : DeedR D key (rdone D ⟨key, 0, 0, g, t⟩) := by
  unfold rdone
  split
  · exact .inl ⟨by show (4 : Int) ≠ 0; decide, rfl, rfl⟩
  · rename_i hl
    exact .inr ⟨rfl, hk, ⟨_, rfl⟩, h.snoc hk ht hg (by have := h.len; omega)⟩
theorem rput_deed {D : List E} (h : Deeds D) (key : Int) (t : ByteArray) : DeedR D key (rput D key t) := by
  unfold rput
  split
  · rename_i hk
    split
    · exact .inl ⟨by show (4 : Int) ≠ 0; decide, rfl, rfl⟩
    · exact rdone_deed h hk (by omega) (fun h => by cases h)
  · exact .inl ⟨by show (1 : Int) ≠ 0; decide, rfl, rfl⟩
theorem rdel_deed {D : List E} (h : Deeds D) (key : Int) : DeedR D key (rdel D key) := by
  unfold rdel
  split
  · rename_i hk
    split
    · exact .inl ⟨by show (5 : Int) ≠ 0; decide, rfl, rfl⟩
    · exact rdone_deed h hk (by decide) (fun _ => by decide +kernel)
  · exact .inl ⟨by show (1 : Int) ≠ 0; decide, rfl, rfl⟩
theorem not_fs {base s : Nat} {w : World} {vs : List Value} {ls : List (List Ch)} {n : Int} (h : StoreO base w s vs ls n) {b : Nat} {T : TypeId} {cs : Array Value} (hB : Blk w b T cs) (h1 : T ≠ 83) (h2 : 98 ≠ T) : ¬ FS s vs b := by
  rintro (rfl | ⟨j, hj, hf⟩)
  · exact h1 (hB.eq_ h.blk).2
  · exact (h.own j hj).apartB hB h2 hf.symm rfl
theorem tyM6 : (34 : TypeId) ≠ 83 := by decide
/-- behind a deed of the store -/
theorem MeshO.deed {base m s g : Nat} {w w' : World} {vs vs' : List Value} {D D' : List E} {q : List (SlV E)} (h : MeshO base w m s g vs D q) (hF : Fr (FS s vs) w w') (hO : StoreO base w' s vs' (lsOf D') D'.length) (hP : StP (lsOf D') D'.length) (hD : ∃ x, D' = D ++ x) (hDD : Deeds D') : MeshO base w' m s g vs' D' q := by
  refine ⟨h.blk.fr hF (not_fs h.st h.blk tyM3 tyM5), hO, hP, h.row.fr hF (not_fs h.st h.row tyM4 tyR2), fun c hc => ?_, fun c hc => (h.cac c hc).more hD, hDD, h.six, h.bm, h.bg⟩
  refine ⟨(h.own c hc).1.fr hF (fun i hi hs => ?_), (h.own c hc).2⟩
  obtain ⟨cur, hB⟩ := (h.own c hc).1.typ hi
  exact not_fs h.st hB tyM2 tyM1.symm hs
/-- what is learnt -/
def learnC (C : List (List E)) (k : Nat) (key : Int) (D : List E) : List (List E) := C.set k (addC (C.getD k []) (entC key D.length (refC D key))).1
/-- what a deed of a node leaves -/
def MDo (base m s g : Nat) (vs : List Value) (q : List (SlV E)) (node key : Int) (r : (Int × Int) × List E) (w : World) (e : Ending) (w' : World) : Prop :=
  ∃ vs' q', e = .returned (.tuple #[.int .i64 r.1.1, errV r.1.2]) ∧ MeshO base w' m s g vs' r.2 q' ∧ Fr (MPart m s g vs q) w w' ∧ (∀ i, MPart m s g vs' q' i → MPart m s g vs q i ∨ w.heap.size ≤ i) ∧
    q'.map SlV.xs = if r.1.2 = 0 then learnC (q.map SlV.xs) node.toNat key r.2 else q.map SlV.xs
def mdoR (len : Nat) (D : List E) (node : Int) (r : (Int × Int) × List E) : (Int × Int) × List E := if inM len node = true then r else ((0, 1), D)
theorem mpart_fs {m s g : Nat} {vs : List Value} {q : List (SlV E)} {i : Nat} (h : FS s vs i) : MPart m s g vs q i := by
  rcases h with rfl | ⟨j, hj, hf⟩
  · exact .inr (.inl rfl)
  · exact .inr (.inr (.inr (.inl ⟨j, hj, hf.symm⟩)))
theorem mpart_vs {m s g : Nat} {vs vs' : List Value} {q : List (SlV E)} {i : Nat} {N : Nat} (hv : ∀ i, FS s vs' i → FS s vs i ∨ N ≤ i) (h : MPart m s g vs' q i) : MPart m s g vs q i ∨ N ≤ i := by
  rcases h with h | h | h | ⟨k, hk, hf⟩ | h
  · exact .inl (.inl h)
  · exact .inl (.inr (.inl h))
  · exact .inl (.inr (.inr (.inl h)))
  · exact (hv i (.inr ⟨k, hk, hf.symm⟩)).imp mpart_fs (fun h => h)
  · exact .inl (.inr (.inr (.inr (.inr h))))
theorem map_getD (q : List (SlV E)) (k : Nat) : (q.map SlV.xs).getD k [] = (q.getD k SlV.nil).xs := by
  rw [List.getD_eq_getElem?_getD, List.getD_eq_getElem?_getD, List.getElem?_map]
  cases q[k]? <;> rfl
section
variable {base m s g : Nat} {vs : List Value} {D : List E} {q : List (SlV E)}
/-- the closure does its deed -/
def DoesR (base s : Nat) (vs : List Value) (D : List E) (caps : Array Value) (F : Nat) (r : (Int × Int) × List E) (w : World) : Prop :=
  ∀ W, Below w.heap.size w W → StoreO base W s vs (lsOf D) D.length → Calls Tryd.prog F caps W (SRes base s vs W (r.1, lsOf r.2, (r.2.length : Int)))
set_option maxHeartbeats 4000000 in
set_option maxRecDepth 100000 in
theorem mdo_put (node key : Int) (caps : Array Value) (r : (Int × Int) × List E) (w : World) (hB : base ≤ w.heap.size) (h : MeshO base w m s g vs D q) (hr : DeedR D key r) (hC : DoesR base s vs D caps 23 r w) :
    Calls Tryd.prog 22 #[.pointer (some ⟨m, 0, none⟩), .int .i64 node, .int .i64 key, .func (.func 23) #[] caps] w (MDo base m s g vs q node key (mdoR q.length D node r) w) := by
  have HN := hid (mnode_any node w h)
  rcases hi : inM q.length node with _ | _
  · rw [mdoR, hi, if_neg (by decide)]
    rw [hi] at HN
    have HM := hid h
    clear hi h hC hr
    go_enter Tryd.func22, Tryd.ntmps22
    go_wp2_with fail
    refine HN.out.mono ?_
    rintro e w1 ⟨rfl, rfl⟩
    go_wp2_with fail
    go_ret2
    exact ⟨vs, q, by rw [errV_ne (show ((((0 : Int), (1 : Int)), D) : (Int × Int) × List E).1.2 ≠ 0 from by show (1 : Int) ≠ 0; decide)]; rfl, HM.out, Fr.refl _ _, fun i hi => .inl hi, by rw [if_neg (show ¬ ((((0 : Int), (1 : Int)), D) : (Int × Int) × List E).1.2 = 0 from by show ¬ (1 : Int) = 0; decide)]⟩
  · rw [mdoR, hi, if_pos rfl]
    rw [hi] at HN
    obtain ⟨h0, h1⟩ := inM_true.1 hi
    obtain ⟨k, rfl⟩ := Int.eq_ofNat_of_zero_le h0
    have hk : k < q.length := by omega
    have HM := hid h
    have HC := hid (hC w (Below.refl _ _) h.st)
    obtain ⟨⟨rn, re⟩, D'⟩ := r
    rcases hr with ⟨r1, r2, r3⟩ | ⟨r1, r2, r3, r4⟩
    · simp only at r1 r2 r3
      subst r2 r3
      have Hre := hid (errV_ne r1)
      have Hr1 := hid r1
      clear hi h hC r1
      go_enter Tryd.func22, Tryd.ntmps22
      go_wp2_with fail
      refine HN.out.mono ?_
      rintro e w1 ⟨rfl, rfl⟩
      go_wp2_with fail
      refine HC.out.mono ?_
      rintro e w2 ⟨vs', rfl, hO, hP, hF, hv⟩
      simp only at hO hP
      have HM2 := hid (HM.out.deed hF hO hP ⟨[], by simp⟩ HM.out.deeds)
      have HF := hid (hF.mono (fun i _ h => mpart_fs (m := m) (g := g) (q := q) h))
      have Hv := hid hv
      simp only
      rw [Hre.out]
      clear hO hP hF hv
      go_wp2_with fail
      go_ret2
      exact ⟨vs', q, by rw [Hre.out]; rfl, HM2.out, HF.out, fun i hi => mpart_vs Hv.out hi, by rw [if_neg Hr1.out]⟩
    · simp only at r1 r3 r4
      subst r1
      have Hr3 := hid r3
      have Hr4 := hid r4
      have Hr2 := hid r2
      clear hi h hC r3 r4 r2
      go_enter Tryd.func22, Tryd.ntmps22
      go_wp2_with fail
      refine HN.out.mono ?_
      rintro e w1 ⟨rfl, rfl⟩
      go_wp2_with fail
      refine HC.out.mono ?_
      rintro e w2 ⟨vs', rfl, hO, hP, hF, hv⟩
      simp only at hO hP
      have hM2 := HM.out.deed hF hO hP Hr3.out Hr4.out
      have HM2 := hid hM2
      have HF := hid (hF.mono (fun i _ h => mpart_fs (m := m) (g := g) (q := q) h))
      have Hv := hid hv
      have hz2 := hF.size
      have HL := hid (mlearn_any k key w2 (Nat.le_trans hB hz2) hM2 hk Hr2.out)
      unfold MLearn at HL
      generalize hx : entC key (D'.length : Int) (refC D' key) = x at HL
      have Hx := hid hx
      obtain ⟨x0, x1, x2, x3, x4⟩ := x
      simp only [E.val] at HL
      simp only
      rw [errV_zero]
      clear hO hP hF hv hM2 hx
      go_wp2_with fail
      refine HL.out.mono ?_
      rintro e w3 ⟨y, rfl, hyx, hM3, hF3, hyb⟩
      have HM3 := hid hM3
      have HF3 := hid (HF.out.step (hF3.mono (fun i _ h => show MPart m s g vs q i from .inr (.inr (.inl h)))))
      have Hyx := hid hyx
      have Hyb := hid hyb
      clear hyx hM3 hF3 hyb HL
      go_wp2_with fail
      go_ret2
      refine ⟨vs', q.set k y, rfl, HM3.out, HF3.out, fun i hi => ?_, ?_⟩
      · rcases hi.set with hi | hi
        · exact mpart_vs Hv.out hi
        · exact .inr (by have := Hyb.out i hi; omega)
      · rw [if_pos rfl, learnC, Int.toNat_natCast, map_getD, Hx.out, ← Hyx.out, List.map_set]
set_option maxHeartbeats 4000000 in
set_option maxRecDepth 100000 in
theorem mdo_del (node key : Int) (caps : Array Value) (r : (Int × Int) × List E) (w : World) (hB : base ≤ w.heap.size) (h : MeshO base w m s g vs D q) (hr : DeedR D key r) (hC : DoesR base s vs D caps 38 r w) :
    Calls Tryd.prog 22 #[.pointer (some ⟨m, 0, none⟩), .int .i64 node, .int .i64 key, .func (.func 38) #[] caps] w (MDo base m s g vs q node key (mdoR q.length D node r) w) := by
  have HN := hid (mnode_any node w h)
  rcases hi : inM q.length node with _ | _
  · rw [mdoR, hi, if_neg (by decide)]
    rw [hi] at HN
    have HM := hid h
    clear hi h hC hr
    go_enter Tryd.func22, Tryd.ntmps22
    go_wp2_with fail
    refine HN.out.mono ?_
    rintro e w1 ⟨rfl, rfl⟩
    go_wp2_with fail
    go_ret2
    exact ⟨vs, q, by rw [errV_ne (show ((((0 : Int), (1 : Int)), D) : (Int × Int) × List E).1.2 ≠ 0 from by show (1 : Int) ≠ 0; decide)]; rfl, HM.out, Fr.refl _ _, fun i hi => .inl hi, by rw [if_neg (show ¬ ((((0 : Int), (1 : Int)), D) : (Int × Int) × List E).1.2 = 0 from by show ¬ (1 : Int) = 0; decide)]⟩
  · rw [mdoR, hi, if_pos rfl]
    rw [hi] at HN
    obtain ⟨h0, h1⟩ := inM_true.1 hi
    obtain ⟨k, rfl⟩ := Int.eq_ofNat_of_zero_le h0
    have hk : k < q.length := by omega
    have HM := hid h
    have HC := hid (hC w (Below.refl _ _) h.st)
    obtain ⟨⟨rn, re⟩, D'⟩ := r
    rcases hr with ⟨r1, r2, r3⟩ | ⟨r1, r2, r3, r4⟩
    · simp only at r1 r2 r3
      subst r2 r3
      have Hre := hid (errV_ne r1)
      have Hr1 := hid r1
      clear hi h hC r1
      go_enter Tryd.func22, Tryd.ntmps22
      go_wp2_with fail
      refine HN.out.mono ?_
      rintro e w1 ⟨rfl, rfl⟩
      go_wp2_with fail
      refine HC.out.mono ?_
      rintro e w2 ⟨vs', rfl, hO, hP, hF, hv⟩
      simp only at hO hP
      have HM2 := hid (HM.out.deed hF hO hP ⟨[], by simp⟩ HM.out.deeds)
      have HF := hid (hF.mono (fun i _ h => mpart_fs (m := m) (g := g) (q := q) h))
      have Hv := hid hv
      simp only
      rw [Hre.out]
      clear hO hP hF hv
      go_wp2_with fail
      go_ret2
      exact ⟨vs', q, by rw [Hre.out]; rfl, HM2.out, HF.out, fun i hi => mpart_vs Hv.out hi, by rw [if_neg Hr1.out]⟩
    · simp only at r1 r3 r4
      subst r1
      have Hr3 := hid r3
      have Hr4 := hid r4
      have Hr2 := hid r2
      clear hi h hC r3 r4 r2
      go_enter Tryd.func22, Tryd.ntmps22
      go_wp2_with fail
      refine HN.out.mono ?_
      rintro e w1 ⟨rfl, rfl⟩
      go_wp2_with fail
      refine HC.out.mono ?_
      rintro e w2 ⟨vs', rfl, hO, hP, hF, hv⟩
      simp only at hO hP
      have hM2 := HM.out.deed hF hO hP Hr3.out Hr4.out
      have HM2 := hid hM2
      have HF := hid (hF.mono (fun i _ h => mpart_fs (m := m) (g := g) (q := q) h))
      have Hv := hid hv
      have hz2 := hF.size
      have HL := hid (mlearn_any k key w2 (Nat.le_trans hB hz2) hM2 hk Hr2.out)
      unfold MLearn at HL
      generalize hx : entC key (D'.length : Int) (refC D' key) = x at HL
      have Hx := hid hx
      obtain ⟨x0, x1, x2, x3, x4⟩ := x
      simp only [E.val] at HL
      simp only
      rw [errV_zero]
      clear hO hP hF hv hM2 hx
      go_wp2_with fail
      refine HL.out.mono ?_
      rintro e w3 ⟨y, rfl, hyx, hM3, hF3, hyb⟩
      have HM3 := hid hM3
      have HF3 := hid (HF.out.step (hF3.mono (fun i _ h => show MPart m s g vs q i from .inr (.inr (.inl h)))))
      have Hyx := hid hyx
      have Hyb := hid hyb
      clear hyx hM3 hF3 hyb HL
      go_wp2_with fail
      go_ret2
      refine ⟨vs', q.set k y, rfl, HM3.out, HF3.out, fun i hi => ?_, ?_⟩
      · rcases hi.set with hi | hi
        · exact mpart_vs Hv.out hi
        · exact .inr (by have := Hyb.out i hi; omega)
      · rw [if_pos rfl, learnC, Int.toNat_natCast, map_getD, Hx.out, ← Hyx.out, List.map_set]
end
end Go.Proofs.YtlcbdhblaamekaaDoor
namespace Go.Proofs.YtlcbdhblaamekaaDoor
open Go.RowKit
open Go.ChangeShapes Go.WideShapes Go.ChangeAt

theorem MDo.up {base m s g : Nat} {vs : List Value} {q : List (SlV E)} {node key : Int} {r : (Int × Int) × List E} {w w1 : World} {e : Ending} {w' : World} (h : MDo base m s g vs q node key r w1 e w') (hb : Below w.heap.size w w1) : MDo base m s g vs q node key r w e w' := by
  obtain ⟨vs', q', h1, h2, h3, h4, h5⟩ := h
  exact ⟨vs', q', h1, h2, (Fr.ofB hb).step h3, fun i hi => (h4 i hi).imp (fun h => h) (fun h => Nat.le_trans hb.size h), h5⟩
section
variable {base m s g : Nat} {vs : List Value} {D : List E} {q : List (SlV E)}
set_option maxHeartbeats 2000000 in
theorem mput1_does (key : Int) (t : ByteArray) (ht : t.size ≤ maxLen) (bm bk bt : Nat) (w : World) (h : MeshO base w m s g vs D q) (h0 : w.cell? ⟨bm, 0, none⟩ = some (.pointer (some ⟨m, 0, none⟩))) (h1 : w.cell? ⟨bk, 0, none⟩ = some (.int .i64 key)) (h2 : w.cell? ⟨bt, 0, none⟩ = some (.string t)) (l0 : bm < w.heap.size) (l1 : bk < w.heap.size) (l2 : bt < w.heap.size) :
    DoesR base s vs D #[.pointer (some ⟨bm, 0, none⟩), .pointer (some ⟨bk, 0, none⟩), .pointer (some ⟨bt, 0, none⟩)] 23 (rput D key t) w := by
  intro W hW hO
  have HP := hid (fun X (hX : Below W.heap.size W X) => sput_any base s key t ht vs (lsOf D) D.length X (hO.belowS hX) h.stp)
  rw [sput_r] at HP
  have c0 := (hW.cell (p := ⟨bm, 0, none⟩) l0).trans h0
  have c1 := (hW.cell (p := ⟨bk, 0, none⟩) l1).trans h1
  have c2 := (hW.cell (p := ⟨bt, 0, none⟩) l2).trans h2
  have c3 := (hW.cell (p := ⟨m, 0, none⟩) h.lt).trans h.c0
  have hz := hW.size
  have hl := h.lt
  clear h h0 h1 h2 hO hW
  go_enter Tryd.func23, Tryd.ntmps23
  go_upto_region 1 with fail
  go_cut [3, 4] (fun a b wx => SRes base s vs W ((rput D key t).1, lsOf (rput D key t).2, ((rput D key t).2.length : Int)) (.returned (.tuple #[a, b])) wx)
  case first =>
    go_region_law (first | (go_simp; go_at_call 24; refine (HP.out _ (Below.manyDrew (Below.refl _ _) 1)).mono ?_; intro e wj hj; have hj2 := srec hj (Below.manyDrew (Below.refl _ _) 1); obtain ⟨vs', rfl, j1, j2, j3, j4⟩ := hj2))
    all_goals
      go_wp2_with fail
      go_meet
      exact ⟨vs', rfl, j1, j2, j3, j4⟩
  case rest =>
  obtain ⟨vs', he, j1, j2, j3, j4⟩ := hcut
  injection he with he
  injection he with he
  obtain ⟨rfl, rfl⟩ : _ ∧ _ := by simpa using he
  go_wp2_with fail
  go_ret2
  exact ⟨vs', rfl, j1, j2, j3, j4⟩
set_option maxHeartbeats 2000000 in
theorem meshput_any (node key : Int) (t : ByteArray) (ht : t.size ≤ maxLen) (w : World) (hB : base ≤ w.heap.size) (h : MeshO base w m s g vs D q) :
    Calls Tryd.prog 7 #[.pointer (some ⟨m, 0, none⟩), .int .i64 node, .int .i64 key, .string t] w (MDo base m s g vs q node key (mdoR q.length D node (rput D key t)) w) := by
  obtain ⟨w1, hw1⟩ : ∃ W : World, W = ((w.alloc (.cells #[.pointer (some ⟨m, 0, none⟩)] 25)).alloc (.cells #[.int .i64 key] 3)).alloc (.cells #[.string t] 9) := ⟨_, rfl⟩
  have hb1 : Below w.heap.size w w1 := by rw [hw1]; exact (((Below.refl _ _).alloc (Nat.le_refl _) _).alloc (by simp) _).alloc (by simp; omega) _
  have hz1 : w1.heap.size = w.heap.size + 3 := by rw [hw1]; simp
  have B0 : Blk w1 w.heap.size 25 #[.pointer (some ⟨m, 0, none⟩)] := by rw [hw1]; exact ((Blk.new _ _ _).alloc _).alloc _
  have B1 : Blk w1 (w.heap.size + 1) 3 #[.int .i64 key] := by rw [hw1]; exact (Blk.new_at (by simp)).alloc _
  have B2 : Blk w1 (w.heap.size + 2) 9 #[.string t] := by rw [hw1]; exact Blk.new_at (by simp)
  have hM1 := h.belowS hb1
  have hD := mput1_does key t ht w.heap.size (w.heap.size + 1) (w.heap.size + 2) w1 hM1 (B0.cell 0) (B1.cell 0) (B2.cell 0) (by omega) (by omega) (by omega)
  have HD := hid (mdo_put node key _ _ w1 (by omega) hM1 (rput_deed h.deeds key t) hD)
  have Hb1 := hid hb1
  have Hw1 := hid hw1
  have c0 := B0.cell 0
  have c1 := B1.cell 0
  have c2 := B2.cell 0
  have l0 : w.heap.size < w1.heap.size := by omega
  have l1 : w.heap.size + 1 < w1.heap.size := by omega
  have l2 : w.heap.size + 2 < w1.heap.size := by omega
  clear h hb1 hz1 B0 B1 B2 hM1 hD hw1
  go_enter Tryd.func7, Tryd.ntmps7
  go_upto_region 1 with fail
  rw [← Hw1.out]
  go_wp2_with fail
  refine HD.out.mono ?_
  intro e w2 h2
  obtain ⟨vs', q', rfl, h3⟩ := h2.up Hb1.out
  go_wp2_with fail
  go_ret2
  exact ⟨vs', q', rfl, h3⟩
end
end Go.Proofs.YtlcbdhblaamekaaDoor
