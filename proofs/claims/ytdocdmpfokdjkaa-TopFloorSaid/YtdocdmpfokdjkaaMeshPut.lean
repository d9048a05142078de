/-
  CONTRACTS of mesh.Put and mesh.Delete. CONDITIONS: none.
-/
import Derived.Test.YtdocdmpfokdjkaaMeshDo
namespace Go.Proofs.Ytdocdmpfokdjkaa
open Go.RowKit
open Go.ChangeShapes Go.WideShapes Go.ChangeAt

theorem MDo.up {base m s g : Nat} {vs : List Value} {q : List (SlV E)} {node key : Int} {r : (Int × Int) × List E} {w w1 : World} {e : Ending} {w' : World} (h : MDo base m s g vs q node key r w1 e w') (hb : Below w.heap.size w w1) : MDo base m s g vs q node key r w e w' := by
  obtain ⟨vs', q', h1, h2, h3, h4, h5⟩ := h
  exact ⟨vs', q', h1, h2, (Fr.ofB hb).step h3, fun i hi => (h4 i hi).imp (fun h => h) (fun h => Nat.le_trans hb.size h), h5⟩
section
variable {base m s g : Nat} {vs : List Value} {D : List E} {q : List (SlV E)}
set_option maxHeartbeats 2000000 in
theorem mput1_does (key : Int) (t : ByteArray) (ht : t.size ≤ maxLen) (bm bk bt : Nat) (w : World) (h : MeshO base w m s g vs D q) (h0 : w.cell? ⟨bm, 0, none⟩ = some (.pointer (some ⟨m, 0, none⟩))) (h1 : w.cell? ⟨bk, 0, none⟩ = some (.int .i64 key)) (h2 : w.cell? ⟨bt, 0, none⟩ = some (.string t)) (l0 : bm < w.heap.size) (l1 : bk < w.heap.size) (l2 : bt < w.heap.size) :
    DoesR base s vs D #[.pointer (some ⟨bm, 0, none⟩), .pointer (some ⟨bk, 0, none⟩), .pointer (some ⟨bt, 0, none⟩)] 36 (rput D key t) w := by
  intro W hW hO
  have HP := hid (fun X (hX : Below W.heap.size W X) => sput_any base s key t ht vs (lsOf D) D.length X (hO.belowS hX) h.stp)
  rw [sput_r] at HP
  have c0 := (hW.cell (p := ⟨bm, 0, none⟩) l0).trans h0
  have c1 := (hW.cell (p := ⟨bk, 0, none⟩) l1).trans h1
  have c2 := (hW.cell (p := ⟨bt, 0, none⟩) l2).trans h2
  have c3 := (hW.cell (p := ⟨m, 0, none⟩) h.lt).trans h.c0
  have hz := hW.size
  have hl := h.lt
  clear h h0 h1 h2 hO hW
  go_enter Try.func36, Try.ntmps36
  go_upto_region 1 with fail
  go_cut [3, 4] (fun a b wx => SRes base s vs W ((rput D key t).1, lsOf (rput D key t).2, ((rput D key t).2.length : Int)) (.returned (.tuple #[a, b])) wx)
  case first =>
    go_region_law (first | (go_simp; go_at_call 37; refine (HP.out _ (Below.manyDrew (Below.refl _ _) 1)).mono ?_; intro e wj hj; have hj2 := srec hj (Below.manyDrew (Below.refl _ _) 1); obtain ⟨vs', rfl, j1, j2, j3, j4⟩ := hj2))
    all_goals
      go_wp2_with fail
      go_meet
      exact ⟨vs', rfl, j1, j2, j3, j4⟩
  case rest =>
  obtain ⟨vs', he, j1, j2, j3, j4⟩ := hcut
  injection he with he
  injection he with he
  obtain ⟨rfl, rfl⟩ : _ ∧ _ := by simpa using he
  go_wp2_with fail
  go_ret2
  exact ⟨vs', rfl, j1, j2, j3, j4⟩
set_option maxHeartbeats 2000000 in
theorem mput_any (node key : Int) (t : ByteArray) (ht : t.size ≤ maxLen) (w : World) (hB : base ≤ w.heap.size) (h : MeshO base w m s g vs D q) :
    Calls Try.prog 14 #[.pointer (some ⟨m, 0, none⟩), .int .i64 node, .int .i64 key, .string t] w (MDo base m s g vs q node key (mdoR q.length D node (rput D key t)) w) := by
  obtain ⟨w1, hw1⟩ : ∃ W : World, W = ((w.alloc (.cells #[.pointer (some ⟨m, 0, none⟩)] 35)).alloc (.cells #[.int .i64 key] 3)).alloc (.cells #[.string t] 9) := ⟨_, rfl⟩
  have hb1 : Below w.heap.size w w1 := by rw [hw1]; exact (((Below.refl _ _).alloc (Nat.le_refl _) _).alloc (by simp) _).alloc (by simp; omega) _
  have hz1 : w1.heap.size = w.heap.size + 3 := by rw [hw1]; simp
  have B0 : Blk w1 w.heap.size 35 #[.pointer (some ⟨m, 0, none⟩)] := by rw [hw1]; exact ((Blk.new _ _ _).alloc _).alloc _
  have B1 : Blk w1 (w.heap.size + 1) 3 #[.int .i64 key] := by rw [hw1]; exact (Blk.new_at (by simp)).alloc _
  have B2 : Blk w1 (w.heap.size + 2) 9 #[.string t] := by rw [hw1]; exact Blk.new_at (by simp)
  have hM1 := h.belowS hb1
  have hD := mput1_does key t ht w.heap.size (w.heap.size + 1) (w.heap.size + 2) w1 hM1 (B0.cell 0) (B1.cell 0) (B2.cell 0) (by omega) (by omega) (by omega)
  have HD := hid (mdo_put node key _ _ w1 (by omega) hM1 (rput_deed h.deeds key t) hD)
  have Hb1 := hid hb1
  have Hw1 := hid hw1
  have c0 := B0.cell 0
  have c1 := B1.cell 0
  have c2 := B2.cell 0
  have l0 : w.heap.size < w1.heap.size := by omega
  have l1 : w.heap.size + 1 < w1.heap.size := by omega
  have l2 : w.heap.size + 2 < w1.heap.size := by omega
  clear h hb1 hz1 B0 B1 B2 hM1 hD hw1
  go_enter Try.func14, Try.ntmps14
  go_upto_region 1 with fail
  rw [← Hw1.out]
  go_wp2_with fail
  refine HD.out.mono ?_
  intro e w2 h2
  obtain ⟨vs', q', rfl, h3⟩ := h2.up Hb1.out
  go_wp2_with fail
  go_ret2
  exact ⟨vs', q', rfl, h3⟩
end
end Go.Proofs.Ytdocdmpfokdjkaa
