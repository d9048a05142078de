/-
  CONTRACT of mesh.Delete. CONDITIONS: none.
-/
import Derived.Test.YtneilklimpdeoaaGreatDoorMeshW
namespace Go.Proofs.YtneilklimpdeoaaGreatDoor
open Go.RowKit
open Go.ChangeShapes Go.WideShapes Go.ChangeAt

section
variable {base m s g : Nat} {vs : List Value} {D : List E} {q : List (SlV E)}
set_option maxHeartbeats 2000000 in
theorem mdel1_does (key : Int) (bm bk : Nat) (w : World) (h : MeshO base w m s g vs D q) (h0 : w.cell? ⟨bm, 0, none⟩ = some (.pointer (some ⟨m, 0, none⟩))) (h1 : w.cell? ⟨bk, 0, none⟩ = some (.int .i64 key)) (l0 : bm < w.heap.size) (l1 : bk < w.heap.size) :
    DoesR base s vs D #[.pointer (some ⟨bm, 0, none⟩), .pointer (some ⟨bk, 0, none⟩)] 24 (rdel D key) w := by
  intro W hW hO
  have HP := hid (fun X (hX : Below W.heap.size W X) => sdel_any base s key vs (lsOf D) D.length X (hO.belowS hX) h.stp)
  rw [sdel_r] at HP
  have c0 := (hW.cell (p := ⟨bm, 0, none⟩) l0).trans h0
  have c1 := (hW.cell (p := ⟨bk, 0, none⟩) l1).trans h1
  have c3 := (hW.cell (p := ⟨m, 0, none⟩) h.lt).trans h.c0
  have hz := hW.size
  have hl := h.lt
  clear h h0 h1 hO hW
  go_enter Tryz.func24, Tryz.ntmps24
  go_upto_region 1 with fail
  go_cut [2, 3] (fun a b wx => SRes base s vs W ((rdel D key).1, lsOf (rdel D key).2, ((rdel D key).2.length : Int)) (.returned (.tuple #[a, b])) wx)
  case first =>
    go_region_law (first | (go_simp; go_at_call 25; refine (HP.out _ (Below.manyDrew (Below.refl _ _) 1)).mono ?_; intro e wj hj; have hj2 := srec hj (Below.manyDrew (Below.refl _ _) 1); obtain ⟨vs', rfl, j1, j2, j3, j4⟩ := hj2))
    all_goals
      go_wp2_with fail
      go_meet
      exact ⟨vs', rfl, j1, j2, j3, j4⟩
  case rest =>
  obtain ⟨vs', he, j1, j2, j3, j4⟩ := hcut
  injection he with he
  injection he with he
  obtain ⟨rfl, rfl⟩ : _ ∧ _ := by simpa using he
  go_wp2_with fail
  go_ret2
  exact ⟨vs', rfl, j1, j2, j3, j4⟩
set_option maxHeartbeats 2000000 in
theorem meshdel_any (node key : Int) (w : World) (hB : base ≤ w.heap.size) (h : MeshO base w m s g vs D q) :
    Calls Tryz.prog 8 #[.pointer (some ⟨m, 0, none⟩), .int .i64 node, .int .i64 key] w (MDo base m s g vs q node key (mdoR q.length D node (rdel D key)) w) := by
  obtain ⟨w1, hw1⟩ : ∃ W : World, W = (w.alloc (.cells #[.pointer (some ⟨m, 0, none⟩)] 24)).alloc (.cells #[.int .i64 key] 3) := ⟨_, rfl⟩
  have hb1 : Below w.heap.size w w1 := by rw [hw1]; exact ((Below.refl _ _).alloc (Nat.le_refl _) _).alloc (by simp) _
  have hz1 : w1.heap.size = w.heap.size + 2 := by rw [hw1]; simp
  have B0 : Blk w1 w.heap.size 24 #[.pointer (some ⟨m, 0, none⟩)] := by rw [hw1]; exact (Blk.new _ _ _).alloc _
  have B1 : Blk w1 (w.heap.size + 1) 3 #[.int .i64 key] := by rw [hw1]; exact Blk.new_at (by simp)
  have hM1 := h.belowS hb1
  have hD := mdel1_does key w.heap.size (w.heap.size + 1) w1 hM1 (B0.cell 0) (B1.cell 0) (by omega) (by omega)
  have HD := hid (mdo_del node key _ _ w1 (by omega) hM1 (rdel_deed h.deeds key) hD)
  have Hb1 := hid hb1
  have Hw1 := hid hw1
  have c0 := B0.cell 0
  have c1 := B1.cell 0
  have l0 : w.heap.size < w1.heap.size := by omega
  have l1 : w.heap.size + 1 < w1.heap.size := by omega
  clear h hb1 hz1 B0 B1 hM1 hD hw1
  go_enter Tryz.func8, Tryz.ntmps8
  go_upto_region 1 with fail
  rw [← Hw1.out]
  go_wp2_with fail
  refine HD.out.mono ?_
  intro e w2 h2
  obtain ⟨vs', q', rfl, h3⟩ := h2.up Hb1.out
  go_wp2_with fail
  go_ret2
  exact ⟨vs', q', rfl, h3⟩
end
theorem mdelW {base m : Nat} {D : List E} {C : List (List E)} {A : Nat → Prop} (node key : Int) (w : World) (h : MeshW base w m D C A) (hA : ∀ i, A i → i < w.heap.size) (hB : base ≤ w.heap.size) :
    Calls Tryz.prog 8 #[.pointer (some ⟨m, 0, none⟩), .int .i64 node, .int .i64 key] w fun e w' =>
      e = .returned (.tuple #[.int .i64 (mdoR C.length D node (rdel D key)).1.1, errV (mdoR C.length D node (rdel D key)).1.2]) ∧
      MeshW base w' m (mdoR C.length D node (rdel D key)).2 (if (mdoR C.length D node (rdel D key)).1.2 = 0 then learnC C node.toNat key (mdoR C.length D node (rdel D key)).2 else C) A ∧ Fr (MTouch base A) w w' := by
  obtain ⟨s, g, vs, q, h1, h2, h3⟩ := h
  have hl : C.length = q.length := by rw [← h2, List.length_map]
  rw [hl]
  refine (meshdel_any node key w hB h1).mono ?_
  rintro e w' ⟨vs', q', rfl, j1, j2, j3, j4⟩
  refine ⟨rfl, ⟨s, g, vs', q', j1, by rw [j4, h2], fun i hi ha => ?_⟩, j2.mono (fun i _ hi => ⟨(h1.part hi).1, h3 i hi⟩)⟩
  rcases j3 i hi with hi | hi
  · exact h3 i hi ha
  · have := hA i ha; omega
end Go.Proofs.YtneilklimpdeoaaGreatDoor
