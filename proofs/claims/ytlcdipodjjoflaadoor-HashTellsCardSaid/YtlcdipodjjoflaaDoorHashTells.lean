/-
  PROVED HERE: merelaw1.HashTells returns true: the number of any text, any entry, and any two is as the document says. CONDITIONS: the library's tables and errors.errorType as the program's text lays them (tied by the card).
-/
import Derived.Test.YtlcdipodjjoflaaDoorRHash2
import Derived.Test.YtlcdipodjjoflaaDoorREntry
import Derived.ChangeVars
import Derived.JoinedOf
import Derived.Stop.Joined
namespace Go.Proofs.YtlcdipodjjoflaaDoor
open Go.RowKit
open Go.ChangeShapes Go.WideShapes Go.ChangeAt

set_option maxHeartbeats 8000000 in
set_option maxRecDepth 100000 in
theorem hashTells_any (s : ByteArray) (k v a : Int) (g : Bool) (t : ByteArray) (x y : Int) (w : World) (hs : s.size ≤ maxLen) (ht : t.size ≤ maxLen) (htb : Tb w) (hgl : Gl w) :
    Calls Tryd.prog 5 #[.string s, .agg #[.int .i64 k, .int .i64 v, .int .i64 a, .bool g, .string t], .int .i64 x, .int .i64 y] w fun e w' => e = .returned (.bool true) ∧ Below w.heap.size w w' := by
  have HT := hid (fun W (hW : Below w.heap.size w W) => htb.belowS hW)
  have HG := hid (fun W (hW : Below w.heap.size w W) => hgl.belowS hW)
  have Hs := hid hs
  have Ht := hid ht
  unfold maxLen at hs
  clear htb hgl ht
  obtain ⟨wA, hwA⟩ : ∃ wA : World, wA = w.alloc (.cells #[.int .i64 k, .int .i64 v, .int .i64 a, .bool g, .string t] 29) := ⟨_, rfl⟩
  have hX : Blk wA w.heap.size 29 #[.int .i64 k, .int .i64 v, .int .i64 a, .bool g, .string t] := by rw [hwA]; exact Blk.new _ _ _
  have hbA : Below w.heap.size w wA := by rw [hwA]; (repeat (first | with_reducible exact Below.refl _ _ | with_reducible assumption | (with_reducible refine Below.drew ?_) | (with_reducible refine Below.manyDrew ?_ _) | ((with_reducible refine Below.alloc ?_ ?_ _); rotate_left; (focus (first | omega | (dsimp only; omega) | (simp; done) | (simp; omega)))) | ((with_reducible refine Below.setCell ?_ ?_ _); rotate_left; (focus (first | omega | (dsimp only; omega) | (simp; done) | (simp; omega)))) | ((with_reducible refine Below.step ?_ (by assumption) ?_); rotate_left; (focus (first | omega | (dsimp only; omega) | (simp; done) | (simp; omega))))))
  have hzA := hbA.size
  have HX := hid hX
  have HbA := hid hbA
  have HwA := hid hwA
  clear hX hbA hwA
  go_enter Tryd.func5, Tryd.ntmps5
  go_upto_if 18 with fail
  rw [← HwA.out]
  go_cut [9, 10] (fun e n wx => e = .int .i64 (textE s) ∧ n = .int .i64 (textN s) ∧ Below wA.heap.size wA wx)
  case first =>
    by_cases h60 : s.size ≤ 60
    · have H1 := hid (show textN s = (hashL (bytesOf s) : Nat) from if_pos h60)
      have H2 := hid (show textE s = 0 from if_pos h60)
      have HO := hid (rhash_any s wA (by omega))
      go_wp2_with fail
      refine HO.out.mono ?_
      rintro e w1 ⟨rfl, hb1⟩
      go_wp2_with fail
      go_meet
      exact ⟨by rw [H2.out], by rw [H1.out], hb1⟩
    · have H1 := hid (show textN s = 0 from if_neg h60)
      have H2 := hid (show textE s = 4 from if_neg h60)
      go_wp2_with fail
      go_meet
      exact ⟨by rw [H2.out], by rw [H1.out], Below.refl _ _⟩
  case rest =>
  obtain ⟨rfl, rfl, hb1⟩ := hcut
  obtain ⟨w1, rfl⟩ : ∃ w1 : World, w1 = wc := ⟨_, rfl⟩
  have HX1 := hid (HX.out.belowS hb1)
  have hz1 := hb1.size
  have Hb1 := hid (Below.step HbA.out hb1 hzA)
  clear hb1
  have HTx := hid (text_any s w1 Hs.out)
  generalize textE s = e1 at *
  generalize textN s = n1 at *
  go_wp2_with fail
  refine HTx.out.mono ?_
  rintro e w2 ⟨rfl, hb2⟩
  have HX2 := hid (HX1.out.belowS hb2)
  have hz2 := hb2.size
  have Hb2 := hid (Below.step Hb1.out hb2 (by omega))
  clear hb2
  go_wp2_with fail
  refine (error_any _ _ w2 (HG.out _ Hb2.out)).mono ?_
  rw [beq_self_eq_true]
  rintro e w3 ⟨rfl, hb3⟩
  have hX3 := HX2.out.belowS hb3
  have hz3 := hb3.size
  have Hb3 := hid (Below.step Hb2.out hb3 (by omega))
  have c0 : w3.cell? ⟨w.heap.size, 0, none⟩ = some (.int .i64 k) := hX3.cell 0
  have c1 : w3.cell? ⟨w.heap.size, 1, none⟩ = some (.int .i64 v) := hX3.cell 1
  have c2 : w3.cell? ⟨w.heap.size, 2, none⟩ = some (.int .i64 a) := hX3.cell 2
  have c3 : w3.cell? ⟨w.heap.size, 3, none⟩ = some (.bool g) := hX3.cell 3
  have c4 : w3.cell? ⟨w.heap.size, 4, none⟩ = some (.string t) := hX3.cell 4
  have HX3 := hid hX3
  clear hb3 hX3
  go_wp2_with fail
  refine (rentry_any k v a g t w3 Ht.out).mono ?_
  rintro e w4 ⟨rfl, hb4⟩
  have hX4 := HX3.out.belowS hb4
  have hz4 := hb4.size
  have Hb4 := hid (Below.step Hb3.out hb4 (by omega))
  have HX4 := hid hX4
  clear hb4 c0 c1 c2 c3 c4 hX4
  go_upto_if 37 with fail
  go_cut [10] (fun n wx => n = .int .i64 (entN ⟨k, v, a, g, t⟩) ∧ Below w4.heap.size w4 wx)
  case first =>
    by_cases hc : chk ⟨k, v, a, g, t⟩ = 0
    · obtain ⟨hk8, hv0, hl⟩ : (0 ≤ k ∧ k ≤ 7) ∧ (0 ≤ v ∧ v ≤ 1000) ∧ t.size ≤ 12 := by
        obtain ⟨h1, h2, h3, _, h5, _⟩ := chk_zero.1 hc
        have k1 := keyB_true.1 h1
        have k2 := seqB_true.1 h2
        simp only at k1 k2 h5
        exact ⟨by omega, by omega, by omega⟩
      have H1 := hid (show entN ⟨k, v, a, g, t⟩ = (hashL (oneT k v g t) : Nat) from if_pos hc)
      have hcb : (chk ⟨k, v, a, g, t⟩ == 0) = true := by rw [hc]; rfl
      obtain ⟨k', rfl⟩ := Int.eq_ofNat_of_zero_le hk8.1
      obtain ⟨v', rfl⟩ := Int.eq_ofNat_of_zero_le hv0.1
      have HO := hid (rone_any k' v' a g t (by omega) (by omega) hl w4)
      have d0 : w4.cell? ⟨w.heap.size, 0, none⟩ = some (.int .i64 k') := HX4.out.cell 0
      have d1 : w4.cell? ⟨w.heap.size, 1, none⟩ = some (.int .i64 v') := HX4.out.cell 1
      have d2 : w4.cell? ⟨w.heap.size, 2, none⟩ = some (.int .i64 a) := HX4.out.cell 2
      have d3 : w4.cell? ⟨w.heap.size, 3, none⟩ = some (.bool g) := HX4.out.cell 3
      have d4 : w4.cell? ⟨w.heap.size, 4, none⟩ = some (.string t) := HX4.out.cell 4
      clear hc
      go_wp2_with fail
      refine HO.out.mono ?_
      rintro e w5 ⟨rfl, hb5⟩
      go_wp2_with fail
      go_meet
      exact ⟨by rw [H1.out], hb5⟩
    · have H1 := hid (show entN ⟨k, v, a, g, t⟩ = 0 from if_neg hc)
      have hcb : (chk ⟨k, v, a, g, t⟩ == 0) = false := by rw [beq_eq_false_iff_ne]; exact hc
      clear hc
      go_wp2_with fail
      go_meet
      exact ⟨by rw [H1.out], Below.refl _ _⟩
  case rest =>
  obtain ⟨rfl, hb5⟩ := hcut
  obtain ⟨w5, rfl⟩ : ∃ w5 : World, w5 = wc := ⟨_, rfl⟩
  have hX5 := HX4.out.belowS hb5
  have hz5 := hb5.size
  have Hb5 := hid (Below.step Hb4.out hb5 (by omega))
  have c0 : w5.cell? ⟨w.heap.size, 0, none⟩ = some (.int .i64 k) := hX5.cell 0
  have c1 : w5.cell? ⟨w.heap.size, 1, none⟩ = some (.int .i64 v) := hX5.cell 1
  have c2 : w5.cell? ⟨w.heap.size, 2, none⟩ = some (.int .i64 a) := hX5.cell 2
  have c3 : w5.cell? ⟨w.heap.size, 3, none⟩ = some (.bool g) := hX5.cell 3
  have c4 : w5.cell? ⟨w.heap.size, 4, none⟩ = some (.string t) := hX5.cell 4
  have HE := hid (hentry_any k v a g t Ht.out w5 (HT.out _ Hb5.out))
  clear hb5 hX5
  generalize entN ⟨k, v, a, g, t⟩ = n2 at *
  generalize chk ⟨k, v, a, g, t⟩ = e2 at *
  go_wp2_with fail
  refine HE.out.mono ?_
  rintro e w6 ⟨rfl, hb6⟩
  have hz6 := hb6.size
  have Hb6 := hid (Below.step Hb5.out hb6 (by omega))
  clear hb6 c0 c1 c2 c3 c4
  go_wp2_with fail
  refine (error_any _ _ w6 (HG.out _ Hb6.out)).mono ?_
  rw [beq_self_eq_true]
  rintro e w7 ⟨rfl, hb7⟩
  have hz7 := hb7.size
  have Hb7 := hid (Below.step Hb6.out hb7 (by omega))
  clear hb7
  go_upto_region 16 with fail
  obtain ⟨bb, hbb⟩ : ∃ bb, bb = !(numB x && numB y) := ⟨_, rfl⟩
  have Hbb := hid hbb
  clear hbb
  go_cut [66] (fun q wx => q = .bool bb ∧ wx = w7)
  case first =>
    have hcx : (x < 0) ∨ (4294967295 < x) ∨ ((0 ≤ x ∧ x ≤ 4294967295) ∧ y < 0) ∨ ((0 ≤ x ∧ x ≤ 4294967295) ∧ 4294967295 < y) ∨ ((0 ≤ x ∧ x ≤ 4294967295) ∧ (0 ≤ y ∧ y ≤ 4294967295)) := by omega
    have hf : ((x < 0) ∨ (4294967295 < x) → bb = true) ∧ ((y < 0) ∨ (4294967295 < y) → bb = true) ∧ ((0 ≤ x ∧ x ≤ 4294967295) ∧ (0 ≤ y ∧ y ≤ 4294967295) → bb = false) := by
      rw [Hbb.out]
      refine ⟨fun h => ?_, fun h => ?_, fun ⟨h1, h2⟩ => ?_⟩
      · rw [numB_false.2 (by omega)]; rfl
      · rw [(numB_false (a := y)).2 (by omega), Bool.and_false]; rfl
      · rw [numB_true.2 (by omega), numB_true.2 (by omega)]; rfl
    rcases hcx with h | h | ⟨⟨h1, h2⟩, h⟩ | ⟨⟨h1, h2⟩, h⟩ | ⟨⟨h1, h2⟩, h3, h4⟩
    · obtain rfl := hf.1 (.inl h)
      clear hf
      go_wp2_with fail
      all_goals first | omega | (go_meet; first | exact ⟨rfl, rfl⟩ | (refine ⟨?_, rfl⟩; congr 1; simp; omega))
    · obtain rfl := hf.1 (.inr h)
      clear hf
      go_wp2_with fail
      all_goals first | omega | (go_meet; first | exact ⟨rfl, rfl⟩ | (refine ⟨?_, rfl⟩; congr 1; simp; omega))
    · obtain rfl := hf.2.1 (.inl h)
      clear hf
      go_wp2_with fail
      all_goals first | omega | (go_meet; first | exact ⟨rfl, rfl⟩ | (refine ⟨?_, rfl⟩; congr 1; simp; omega))
    · obtain rfl := hf.2.1 (.inr h)
      clear hf
      go_wp2_with fail
      all_goals first | omega | (go_meet; first | exact ⟨rfl, rfl⟩ | (refine ⟨?_, rfl⟩; congr 1; simp; omega))
    · obtain rfl := hf.2.2 ⟨⟨h1, h2⟩, h3, h4⟩
      clear hf
      go_wp2_with fail
      all_goals first | omega | (go_meet; first | exact ⟨rfl, rfl⟩ | (refine ⟨?_, rfl⟩; congr 1; simp; omega))
  case rest =>
  obtain ⟨rfl, hwc⟩ := hcut
  obtain rfl : w7 = wc := hwc.symm
  go_upto_if 66 with fail
  go_cut [9, 10] (fun e n wx => e = .int .i64 (twoE x y) ∧ n = .int .i64 (twoN x y) ∧ Below w7.heap.size w7 wx)
  case first =>
    rcases hc : (numB x && numB y) with _ | _
    · obtain rfl : bb = true := by rw [Hbb.out, hc]; rfl
      have H1 := hid (show twoN x y = 0 by rw [twoN, hc]; rfl)
      have H2 := hid (show twoE x y = 1 by rw [twoE, hc]; rfl)
      clear hc
      go_wp2_with fail
      go_meet
      exact ⟨by rw [H2.out], by rw [H1.out], Below.refl _ _⟩
    · obtain rfl : bb = false := by rw [Hbb.out, hc]; rfl
      have H1 := hid (show twoN x y = (hashL (pairT x y) : Nat) by rw [twoN, hc]; rfl)
      have H2 := hid (show twoE x y = 0 by rw [twoE, hc]; rfl)
      rw [Bool.and_eq_true] at hc
      obtain ⟨a0, a1⟩ := numB_true.1 hc.1
      obtain ⟨b0, b1⟩ := numB_true.1 hc.2
      obtain ⟨x', rfl⟩ := Int.eq_ofNat_of_zero_le a0
      obtain ⟨y', rfl⟩ := Int.eq_ofNat_of_zero_le b0
      have HO := hid (rpair_any x' y' (by omega) (by omega) w7)
      clear hc
      go_wp2_with fail
      refine HO.out.mono ?_
      rintro e w8 ⟨rfl, hb8⟩
      go_wp2_with fail
      go_meet
      exact ⟨by rw [H2.out], by rw [H1.out], hb8⟩
  case rest =>
  obtain ⟨rfl, rfl, hb8⟩ := hcut
  obtain ⟨w8, rfl⟩ : ∃ w8 : World, w8 = wc := ⟨_, rfl⟩
  have hz8 := hb8.size
  have Hb8 := hid (Below.step Hb7.out hb8 (by omega))
  have HTw := hid (two_any x y w8 (HT.out _ Hb8.out))
  clear hb8 Hbb
  generalize twoE x y = e3 at *
  generalize twoN x y = n3 at *
  go_wp2_with fail
  refine HTw.out.mono ?_
  rintro e w9 ⟨rfl, hb9⟩
  have hz9 := hb9.size
  have Hb9 := hid (Below.step Hb8.out hb9 (by omega))
  clear hb9
  go_wp2_with fail
  refine (error_any _ _ w9 (HG.out _ Hb9.out)).mono ?_
  rw [beq_self_eq_true]
  rintro e w10 ⟨rfl, hb10⟩
  have Hb10 := hid (Below.step Hb9.out hb10 (by omega))
  clear hb10
  go_wp2_with fail
  go_ret
  exact ⟨rfl, Hb10.out⟩

set_option maxRecDepth 100000 in
theorem hashTells_walk : LawWalk Tryd.prog 5 Tryd.f5 (fun W => Tb W ∧ Gl W) := by
  intro W base args H enc ds p hval hA ht
  rw [Tryd.params5] at hA hval
  obtain ⟨v0, v1, v2, v3, d0, d1, d2, d3, p0, p1, p2, p3, rfl, rfl, rfl, h0, h1, h2, h3⟩ := trodAll_four hA
  obtain ⟨s, rfl, hs⟩ := arg_str Tryd.underlying9 (hval 0 9 v0 rfl rfl) h0
  obtain ⟨⟨k, v, c, g, t⟩, rfl, he⟩ := arg_struct Tryd.underlying29 codecEntry (hval 1 29 v1 rfl rfl) h1
  obtain ⟨a, rfl, _⟩ := arg_int Tryd.underlying3 (hval 2 3 v2 rfl rfl) h2
  obtain ⟨b, rfl, _⟩ := arg_int Tryd.underlying3 (hval 3 3 v3 rfl rfl) h3
  exact hashTells_any s k v c g t a b W hs he.2.2.2 ht.1 ht.2

set_option maxRecDepth 100000 in
theorem hashTells_lifted (os : Os) (started : os.Started) (H : Type) (enc : TypeId × Value → H) :
    ReturnsInHanded {} Tryd.checked os 5 .any (fun w args => (Rows.hashTellsSpec.pre enc Tryd.checked.prog Tryd.f5 [] false w args ∧ laidMetH Tryd.prog laid4 w) ∧ sizedMet enc Tryd.checked.prog Tryd.f5 (OpenSpec.ofChange Rows.hashTellsSpec) false w args) (Rows.hashTellsSpec.post enc Tryd.checked.prog Tryd.f5 false true false false) :=
  laid_lifted (C := Tryd.checked) laid4 (fun _ h => tb_of_laid4 h) [] Tryd.own started (by kernel_rfl) Tryd.func5 Tryd.laidOut (by kernel_rfl) rfl Tryd.underlying4 rfl (fun ds h => by match ds, h with | [_, _, _, _], _ => rfl)
    (ChangeSpec.witness_shaped (enc := enc) (C := Tryd.checked) (os := os) (X := fun w _ => laidMetH Tryd.prog laid4 w) false (World.doorLaid Tryd.prog 4000 os) #[.string ⟨#[]⟩, .agg #[.int .i64 0, .int .i64 0, .int .i64 0, .bool false, .string ⟨#[]⟩], .int .i64 0, .int .i64 0] 8 rfl (World.shaped_of_RefB (by kernel_rfl) (by kernel_rfl)) (by kernel_rfl) (by kernel_rfl) (by kernel_rfl) (door_met4 os _)) hashTells_walk

theorem hashTells_row : Rows.HashTellsSaid :=
  OpenClaim.holds_of_wide 5 Tryd.f5 rfl rfl rfl rfl rfl rfl rfl ⟨rfl, rfl, rfl, rfl, rfl⟩ rfl rfl rfl rfl rfl (by kernel_rfl) Tryd.func5 (by kernel_rfl)
    (of_decide_eq_true (by kernel_rfl)) (by unfold Func.isWrapper; rw [if_neg (of_decide_eq_false (by kernel_rfl))]; exact ⟨rfl, rfl⟩)
    (fun os started H enc _ => hashTells_lifted os started H enc)

theorem hashTells_holds : Rows.HashTellsCardSaid :=
  Claim7.holds_tied_plain_at .later [] [.data, .data, .data, .handle] true _ true
    hashTells_row (fun _ h => by cases h) (by kernel_rfl) (fun _ h => by cases h) hashTells_row_tie rfl ⟨rfl, rfl⟩ (by kernel_rfl) rfl
    (fun f fn hf hfn => by
      obtain rfl : f = 5 := Option.some.inj ((show Tryd.prog.funcNamed "beaconmere/merelaw1.HashTells" = some 5 by kernel_rfl).symm.trans hf) |>.symm
      obtain rfl : fn = Tryd.f5 := (Option.some.inj (Tryd.func5.symm.trans hfn)).symm
      refine ⟨by kernel_rfl, fun j t ht => ?_⟩
      have hall : Tryd.f5.params.toList.all (fun t => !Tryd.prog.wantsStandIn t) = true := by kernel_rfl
      have hm : t ∈ Tryd.f5.params.toList := by
        obtain ⟨hj, hje⟩ := Array.getElem?_eq_some_iff.1 ht
        rw [← hje]
        exact Array.mem_toList_iff.2 (Array.getElem_mem hj)
      have := List.all_eq_true.1 hall t hm
      exact (show Tryd.prog.wantsStandIn t = false by simpa using this))
    (by kernel_rfl)

end Go.Proofs.YtlcdipodjjoflaaDoor
