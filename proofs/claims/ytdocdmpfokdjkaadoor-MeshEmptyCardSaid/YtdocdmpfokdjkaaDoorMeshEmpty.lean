/-
  PROVED HERE: merelaw4.MeshEmpty returns true: at first nobody has anything, and what is asked for is told as gone. CONDITIONS: errors.errorType as the program's text lays it (tied by the card).
-/
import Derived.Test.YtdocdmpfokdjkaaDoorMeshNew
import Derived.Test.YtdocdmpfokdjkaaDoorMeshGet
import Derived.Test.YtdocdmpfokdjkaaDoorESame
import Derived.Test.YtdocdmpfokdjkaaDoorDoor
namespace Go.Proofs.YtdocdmpfokdjkaaDoor
open Go.RowKit
open Go.ChangeShapes Go.WideShapes Go.ChangeAt

theorem noneC_get {N k : Nat} (hk : k < (noneC N).length) : (noneC N)[k] = ⟨none, 0, []⟩ := by
  unfold noneC
  exact List.getElem_replicate ..
theorem noneC_getD (N k : Nat) : ((noneC N).getD k SlV.nil).xs = [] := by
  unfold noneC
  rw [List.getD_eq_getElem?_getD, List.getElem?_replicate]
  split <;> rfl

set_option maxHeartbeats 8000000 in
set_option maxRecDepth 100000 in
theorem meshEmpty_any (n node key : Int) (w : World) (hgl : Gl w) :
    Calls Tryd.prog 4 #[.int .i64 n, .int .i64 node, .int .i64 key] w fun e w' => e = .returned (.bool true) ∧ Below w.heap.size w w' := by
  have hg0 := hgl.lt
  have Hee := hid (fun (W : World) (hW : Below w.heap.size w W) => show Calls Tryd.prog 9 #[.iface 69 (.int .i64 1), .int .i64 1] W fun e w' => e = .returned (.bool true) ∧ Below W.heap.size W w' from by
    have := error_any 1 1 W (hgl.below hW hg0)
    rw [errV_ne (by decide), beq_self_eq_true] at this
    exact this)
  by_cases hn : n < 1 ∨ 6 < n
  · have HB := hid (mnew_bad n w hn)
    rcases (show n < 1 ∨ (¬ n < 1 ∧ 6 < n) by omega) with h | ⟨h1, h⟩
    all_goals
      clear hn
      go_enter Tryd.func4, Tryd.ntmps4
      go_wp2_with fail
      refine HB.out.mono ?_
      rintro e w1 ⟨rfl, hb1⟩
      have Hb1 := hid hb1
      clear hb1
      go_wp2_with fail
      go_ret
      exact ⟨ret_b (by first | rfl | (simp; omega)), Hb1.out⟩
  obtain ⟨N, rfl⟩ := Int.eq_ofNat_of_zero_le (show 0 ≤ n by omega)
  have HNw := hid (mnew_ok N w (by omega) (by omega))
  have hN1 : 1 ≤ N := by omega
  have hN6 : N ≤ 6 := by omega
  clear hn
  go_enter Tryd.func4, Tryd.ntmps4
  go_wp2_with fail
  refine HNw.out.mono ?_
  rintro e w1 ⟨vm, rfl, m, s, g, rfl, hM, hb1⟩
  have Hb1 := hid hb1
  have hz1 := hb1.size
  have HM1 := hid hM
  have HC := hid (mcache_any node w1 hM)
  clear hM hb1 HNw
  rcases hi : inM (noneC N).length node with _ | _
  · have hi' := inM_false.1 hi
    rw [noneC_len] at hi'
    have HC2 := hid (show Calls Tryd.prog 15 #[.pointer (some ⟨m, 0, none⟩), .int .i64 node] w1 fun e w' => e = .returned (.tuple #[.slice none 0 0, .iface 69 (.int .i64 1)]) ∧ Below w1.heap.size w1 w' from HC.out.mono (fun e w' h => by
      rcases h with ⟨_, h1, h2⟩ | ⟨h, _⟩
      · exact ⟨h1, h2⟩
      · rw [hi] at h; cases h))
    rcases (show node < 0 ∨ (¬ node < 0 ∧ (N : Int) ≤ node) by omega) with h | ⟨h1, h⟩
    all_goals
      clear hi hi'
      go_wp2_with fail
      refine HC2.out.mono ?_
      rintro e w2 ⟨rfl, hb2⟩
      have Hb2 := hid (Below.step Hb1.out hb2 hz1)
      clear hb2
      go_wp2_with fail
      go_ret
      exact ⟨ret_b (by first | rfl | (simp; omega)), Hb2.out⟩
  have hii := inM_true.1 hi
  obtain ⟨k, rfl⟩ := Int.eq_ofNat_of_zero_le hii.1
  have hk : k < (noneC N).length := by omega
  have HC2 := hid (show Calls Tryd.prog 15 #[.pointer (some ⟨m, 0, none⟩), .int .i64 k] w1 fun e w' => (∃ y : SlV E, e = .returned (.tuple #[.slice y.A y.xs.length y.c, .nilIface]) ∧ y.xs = []) ∧ Below w1.heap.size w1 w' from HC.out.mono (fun e w' h => by
    rcases h with ⟨h, _⟩ | ⟨_, y, h1, h2, _, h3⟩
    · rw [hi] at h; cases h
    · exact ⟨⟨y, h1, by rw [h2, noneC_getD]⟩, h3⟩))
  have Hi := hid hi
  clear hi hii HC
  go_wp2_with fail
  refine HC2.out.mono ?_
  rintro e w2 ⟨⟨y, rfl, hy⟩, hb2⟩
  have hyl : y.xs.length = 0 := by rw [hy]; rfl
  rw [hyl]
  have Hb2 := hid (Below.step Hb1.out hb2 hz1)
  have hz2 := Hb2.out.size
  have HM2 := hid (HM1.out.belowS hb2)
  clear hb2 hy hyl HC2 HM1
  rcases hkb : keyB key with _ | _
  · have HG := hid (mget_bad k key 0 w2 HM2.out (by rw [← Bool.not_eq_true, askB_true, hkb]; simp))
    have hkk := keyB_false.1 hkb
    rcases (show key < 0 ∨ (¬ key < 0 ∧ 7 < key) by omega) with h | ⟨h1, h⟩
    all_goals
      clear hkb hkk
      go_wp2_with fail
      refine HG.out.mono ?_
      rintro e w3 ⟨rfl, hb3⟩
      have Hb3 := hid (Below.step Hb2.out hb3 hz2)
      have hz3 := Hb3.out.size
      clear hb3
      go_wp2_with fail
      go_ret
      exact ⟨ret_b (by first | rfl | (simp; omega)), Hb3.out.alloc hz3 _⟩
  have HG := hid (mget_miss k key 0 w2 hz2 HM2.out hk hkb (by omega) (by simp) (fun x hx => by rw [noneC_get] at hx; cases hx))
  have hE : entC key (([] : List E).length : Int) (refC [] key) = ⟨key, 0, 0, true, ⟨#[]⟩⟩ := rfl
  unfold MMiss at HG
  have Hlearn := hid ((CacheD.nil []).learn Deeds.nil hkb)
  rw [hE] at HG Hlearn
  simp only [E.val] at HG
  have Hkb := hid hkb
  clear hkb hE
  go_wp2_with fail
  refine HG.out.mono ?_
  rintro e w3 ⟨y, rfl, hyx, hM3, hF3, hyb⟩
  rw [noneC_getD] at hyx
  have hb3 : Below w.heap.size w w3 := Hb2.out.trans (hF3.below0 hz2 (fun i hi => by rw [hi]; exact HM2.out.bg))
  have hyk : k < ((noneC N).set k y).length := by rw [List.length_set]; exact hk
  have Hy := hid (show lk ((noneC N).set k y)[k].xs key = some ⟨key, 0, 0, true, ⟨#[]⟩⟩ from by rw [List.getElem_set_self, hyx]; exact Hlearn.out)
  have HM3 := hid hM3
  have Hb3 := hid hb3
  have hz3 := hb3.size
  clear hyx hM3 hF3 hyb hb3 HG
  go_upto_region 8 with fail
  obtain ⟨w4, hw4⟩ : ∃ W : World, W = w3.alloc (.cells #[.int .i64 key, .int .i64 0, .int .i64 0, .bool true, .string ⟨#[]⟩] 47) := ⟨_, rfl⟩
  rw [← hw4]
  have HX4 := hid (show Blk w4 w3.heap.size 47 #[.int .i64 key, .int .i64 0, .int .i64 0, .bool true, .string ⟨#[]⟩] by rw [hw4]; exact Blk.new _ _ _)
  have HM4 := hid (show MeshO w.heap.size w4 m s g (List.replicate 8 nilS) [] ((noneC N).set k y) by rw [hw4]; exact HM3.out.belowS ((Below.refl _ _).alloc (Nat.le_refl _) _))
  have Hb4 := hid (show Below w.heap.size w w4 by rw [hw4]; exact Hb3.out.alloc hz3 _)
  have hz4 := Hb4.out.size
  have HG2 := hid (mget_hit k key 0 _ w4 HM4.out hyk Hkb.out (by omega) (by simp) Hy.out (Int.le_refl _))
  simp only [E.val] at HG2
  clear hw4 HM3
  go_wp2_with fail
  refine HG2.out.mono ?_
  rintro e w5 ⟨rfl, hb5⟩
  have HX5 := hid (HX4.out.belowS hb5)
  have HM5 := hid (HM4.out.belowS hb5)
  have Hb5 := hid (Below.step Hb4.out hb5 hz4)
  have hz5 := Hb5.out.size
  clear hb5 HG2
  go_upto_region 11 with fail
  obtain ⟨w6, hw6⟩ : ∃ W : World, W = w5.alloc (.cells #[.int .i64 key, .int .i64 0, .int .i64 0, .bool true, .string ⟨#[]⟩] 47) := ⟨_, rfl⟩
  rw [← hw6]
  have HY6 := hid (show Blk w6 w5.heap.size 47 #[.int .i64 key, .int .i64 0, .int .i64 0, .bool true, .string ⟨#[]⟩] by rw [hw6]; exact Blk.new _ _ _)
  have HX6 := hid (show Blk w6 w3.heap.size 47 #[.int .i64 key, .int .i64 0, .int .i64 0, .bool true, .string ⟨#[]⟩] by rw [hw6]; exact HX5.out.alloc _)
  have HM6 := hid (show MeshO w.heap.size w6 m s g (List.replicate 8 nilS) [] ((noneC N).set k y) by rw [hw6]; exact HM5.out.belowS ((Below.refl _ _).alloc (Nat.le_refl _) _))
  have Hb6 := hid (show Below w.heap.size w w6 by rw [hw6]; exact Hb5.out.alloc hz5 _)
  have hz6 := Hb6.out.size
  have HG3 := hid (mget_bad k key 1 w6 HM6.out (by rw [← Bool.not_eq_true, askB_true]; simp))
  clear hw6
  go_wp2_with fail
  refine HG3.out.mono ?_
  rintro e w7 ⟨rfl, hb7⟩
  have HX7 := hid (HX6.out.belowS hb7)
  have HY7 := hid (HY6.out.belowS hb7)
  have hb7' := Below.step Hb6.out hb7 hz6
  clear hb7 HG3
  go_upto_region 12 with fail
  obtain ⟨w8, hw8⟩ : ∃ W : World, W = w7.alloc (.cells #[.int .i64 0, .int .i64 0, .int .i64 0, .bool false, .string ⟨#[]⟩] 47) := ⟨_, rfl⟩
  rw [← hw8]
  have hX8 : Blk w8 w3.heap.size 47 #[.int .i64 key, .int .i64 0, .int .i64 0, .bool true, .string ⟨#[]⟩] := by rw [hw8]; exact HX7.out.alloc _
  have hY8 : Blk w8 w5.heap.size 47 #[.int .i64 key, .int .i64 0, .int .i64 0, .bool true, .string ⟨#[]⟩] := by rw [hw8]; exact HY7.out.alloc _
  have Hb8 := hid (show Below w.heap.size w w8 by rw [hw8]; exact hb7'.alloc hb7'.size _)
  have HE8 := hid (Hee.out w8 Hb8.out)
  have c0 : w8.cell? ⟨w3.heap.size, 0, none⟩ = some (.int .i64 key) := hX8.cell 0
  have c1 : w8.cell? ⟨w3.heap.size, 1, none⟩ = some (.int .i64 0) := hX8.cell 1
  have c2 : w8.cell? ⟨w3.heap.size, 2, none⟩ = some (.int .i64 0) := hX8.cell 2
  have c3 : w8.cell? ⟨w3.heap.size, 3, none⟩ = some (.bool true) := hX8.cell 3
  have c4 : w8.cell? ⟨w3.heap.size, 4, none⟩ = some (.string ⟨#[]⟩) := hX8.cell 4
  have d0 : w8.cell? ⟨w5.heap.size, 0, none⟩ = some (.int .i64 key) := hY8.cell 0
  have d1 : w8.cell? ⟨w5.heap.size, 1, none⟩ = some (.int .i64 0) := hY8.cell 1
  have d2 : w8.cell? ⟨w5.heap.size, 2, none⟩ = some (.int .i64 0) := hY8.cell 2
  have d3 : w8.cell? ⟨w5.heap.size, 3, none⟩ = some (.bool true) := hY8.cell 3
  have d4 : w8.cell? ⟨w5.heap.size, 4, none⟩ = some (.string ⟨#[]⟩) := hY8.cell 4
  have hl1 := hX8.lt
  have hl2 := hY8.lt
  have heq := fun W => eqRunE key 0 0 true ⟨#[]⟩ key 0 0 true ⟨#[]⟩ W
  rw [eqbE_refl] at heq
  have hz8 := Hb8.out.size
  clear hw8 hX8 hY8 hb7'
  go_wp2_with fail
  refine HE8.out.mono ?_
  rintro e w9 ⟨rfl, hb9⟩
  have Hb9 := hid (Below.step Hb8.out hb9 hz8)
  clear hb9
  go_wp2_with fail
  go_ret
  exact ⟨rfl, Hb9.out⟩

set_option maxRecDepth 100000 in
theorem meshEmpty_walk : LawWalk Tryd.prog 4 Tryd.f4 Gl := by
  intro W base args H enc ds p hval hA hgl
  rw [Tryd.params4] at hA hval
  obtain ⟨v0, v1, v2, d0, d1, d2, p0, p1, p2, rfl, rfl, rfl, h0, h1, h2⟩ := trodAll_three hA
  obtain ⟨n, rfl, _⟩ := arg_int Tryd.underlying3 (hval 0 3 v0 rfl rfl) h0
  obtain ⟨node, rfl, _⟩ := arg_int Tryd.underlying3 (hval 1 3 v1 rfl rfl) h1
  obtain ⟨key, rfl, _⟩ := arg_int Tryd.underlying3 (hval 2 3 v2 rfl rfl) h2
  exact meshEmpty_any n node key W hgl

set_option maxRecDepth 100000 in
theorem meshEmpty_lifted (os : Os) (started : os.Started) (H : Type) (enc : TypeId × Value → H) :
    ReturnsInHanded {} Tryd.checked os 4 .any (fun w args => (Rows.meshEmptySpec.pre enc Tryd.checked.prog Tryd.f4 [] false w args ∧ laidMetH Tryd.prog theLaid w) ∧ sizedMet enc Tryd.checked.prog Tryd.f4 (OpenSpec.ofChange Rows.meshEmptySpec) false w args) (Rows.meshEmptySpec.post enc Tryd.checked.prog Tryd.f4 false true false false) :=
  laid_lifted (C := Tryd.checked) theLaid (fun _ h => handle_of_laid h) [] Tryd.own started (by kernel_rfl) Tryd.func4 Tryd.laidOut (by kernel_rfl) rfl Tryd.underlying4 rfl (fun ds h => by match ds, h with | [_, _, _], _ => rfl)
    (ChangeSpec.witness_at (enc := enc) (C := Tryd.checked) (os := os) (X := fun w _ => laidMetH Tryd.prog theLaid w) false (laidWorld os) #[.int .i64 0, .int .i64 0, .int .i64 0] 8 rfl (by kernel_rfl) (by kernel_rfl) (by kernel_rfl) (by kernel_rfl) (by kernel_rfl) (laidWorld_met os _)) meshEmpty_walk

theorem meshEmpty_row : Rows.MeshEmptySaid :=
  OpenClaim.holds_of_wide 4 Tryd.f4 rfl rfl rfl rfl rfl rfl rfl ⟨rfl, rfl, rfl, rfl, rfl⟩ rfl rfl rfl rfl rfl (by kernel_rfl) Tryd.func4 (by kernel_rfl)
    (of_decide_eq_true (by kernel_rfl)) (by unfold Func.isWrapper; rw [if_neg (of_decide_eq_false (by kernel_rfl))]; exact ⟨rfl, rfl⟩)
    (fun os started H enc _ => meshEmpty_lifted os started H enc)

theorem meshEmpty_holds : Rows.MeshEmptyCardSaid :=
  Claim7.holds_tied_plain_at .later [] [.handle] true _ true
    meshEmpty_row (fun _ h => by cases h) (by kernel_rfl) (fun _ h => by cases h) meshEmpty_row_tie rfl ⟨rfl, rfl⟩ (by kernel_rfl) rfl
    (fun f fn hf hfn => by
      obtain rfl : f = 4 := Option.some.inj ((show Tryd.prog.funcNamed "beaconmere/merelaw4.MeshEmpty" = some 4 by kernel_rfl).symm.trans hf) |>.symm
      obtain rfl : fn = Tryd.f4 := (Option.some.inj (Tryd.func4.symm.trans hfn)).symm
      refine ⟨by kernel_rfl, fun j t ht => ?_⟩
      have hall : Tryd.f4.params.toList.all (fun t => !Tryd.prog.wantsStandIn t) = true := by kernel_rfl
      have hm : t ∈ Tryd.f4.params.toList := by
        obtain ⟨hj, hje⟩ := Array.getElem?_eq_some_iff.1 ht
        rw [← hje]
        exact Array.mem_toList_iff.2 (Array.getElem_mem hj)
      have := List.all_eq_true.1 hall t hm
      exact (show Tryd.prog.wantsStandIn t = false by simpa using this))
    (by kernel_rfl)

end Go.Proofs.YtdocdmpfokdjkaaDoor
