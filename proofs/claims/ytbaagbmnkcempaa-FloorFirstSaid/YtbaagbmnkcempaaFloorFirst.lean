/-
  PROVED HERE: merelaw4.FloorFirst returns true for every entry and number: at first anything may be told, and when all are raised just what is not older. CONDITIONS: none.
-/
import Derived.Test.YtbaagbmnkcempaaFloorLaw
namespace Go.Proofs.Ytbaagbmnkcempaa
open Go.RowKit
open Go.ChangeShapes Go.WideShapes Go.ChangeAt

set_option maxHeartbeats 4000000 in
theorem floorFirst_bad (k v a : Int) (g : Bool) (t : ByteArray) (s : Int) (ht : t.size ≤ maxLen) (w : World) (hc : chk ⟨k, v, a, g, t⟩ ≠ 0) :
    Calls Try.prog 5 #[.agg #[.int .i64 k, .int .i64 v, .int .i64 a, .bool g, .string t], .int .i64 s] w fun e w' => e = .returned (.bool true) ∧ Below w.heap.size w w' := by
  have he := errV_ne hc
  have He := hid he
  have Hc : Hid (chk ⟨k, v, a, g, t⟩ ≠ 0) := hc
  clear he hc
  go_enter Try.func5, Try.ntmps5
  go_wp2_with fail
  refine (new_floor _).mono ?_
  rintro e w1 ⟨rfl, hB1, hb1⟩
  obtain ⟨hc1, hf1⟩ := bcell hb1
  have hz1 := hb1.size
  have hl0 := hB1.lt
  simp only [World.size_alloc] at hz1 hB1 hl0
  have hl1 : w.heap.size < w1.heap.size := by omega
  go_wp2_with fail
  refine (may_any _ _ (by simp) k v a g t ht _ hB1).mono ?_
  rw [if_neg Hc.out, He.out]
  rintro e w2 ⟨rfl, hb2⟩; obtain ⟨hc2, hf2⟩ := bcell hb2; have hz2 := hb2.size; (try simp only [World.size_alloc] at hz2); (try simp only [World.size_setCell] at hz2)
  have hl2 : w.heap.size < w2.heap.size := by omega
  go_wp2_with fail
  refine (check_any k v a g t _ ht).mono ?_
  rw [He.out]
  rintro e w3 ⟨rfl, hb3⟩; obtain ⟨hc3, hf3⟩ := bcell hb3; have hz3 := hb3.size; (try simp only [World.size_alloc] at hz3); (try simp only [World.size_setCell] at hz3)
  go_wp2_with fail
  go_ret
  exact ⟨rfl, by (repeat (first | with_reducible exact Below.refl _ _ | with_reducible assumption | (with_reducible refine Below.drew ?_) | (with_reducible refine Below.manyDrew ?_ _) | ((with_reducible refine Below.alloc ?_ ?_ _); rotate_left; (focus (first | omega | (dsimp only; omega) | (simp; done) | (simp; omega)))) | ((with_reducible refine Below.setCell ?_ ?_ _); rotate_left; (focus (first | omega | (dsimp only; omega) | (simp; done) | (simp; omega)))) | ((with_reducible refine Below.step ?_ (by assumption) ?_); rotate_left; (focus (first | omega | (dsimp only; omega) | (simp; done) | (simp; omega))))))⟩

set_option maxHeartbeats 4000000 in
theorem floorFirst_ok (j : Nat) (v a : Int) (g : Bool) (t : ByteArray) (s : Int) (ht : t.size ≤ maxLen) (w : World) (hc : chk ⟨j, v, a, g, t⟩ = 0) (hj : j < 8) (ha : 0 ≤ a) :
    Calls Try.prog 5 #[.agg #[.int .i64 j, .int .i64 v, .int .i64 a, .bool g, .string t], .int .i64 s] w fun e w' => e = .returned (.bool true) ∧ Below w.heap.size w w' := by
  have he : errV (chk ⟨j, v, a, g, t⟩) = .nilIface := by rw [hc]; rfl
  have He := hid he
  have Hc := hid hc
  have hkb : keyB (j : Int) = true := keyB_true.2 (by omega)
  have Hk := hid hkb
  have Ha := hid (show decide ((List.replicate 8 (0 : Int)).getD j 0 ≤ a) = true by rw [zeros_get]; exact decide_eq_true ha)
  have hd : (s < 0 ∨ 1000 < s) ∨ seqB s = true := by
    rcases h : seqB s with _ | _
    · exact .inl (seqB_false.1 h)
    · exact .inr rfl
  clear he hc hkb
  rcases hd with hd | hd
  · have Hs : Hid (seqB s = false) := seqB_false.2 hd
    rcases hd with hd | hd
    all_goals
      go_enter Try.func5, Try.ntmps5
      go_wp2_with fail
      refine (new_floor _).mono ?_
      rintro e w1 ⟨rfl, hB1, hb1⟩
      obtain ⟨hc1, hf1⟩ := bcell hb1
      have hz1 := hb1.size
      have hl0 := hB1.lt
      simp only [World.size_alloc] at hz1 hB1 hl0
      have hl1 : w.heap.size < w1.heap.size := by omega
      go_wp2_with fail
      refine (may_any _ _ (by simp) j v a g t ht _ hB1).mono ?_
      rw [if_pos Hc.out, He.out, Int.toNat_natCast, Ha.out]
      rintro e w2 ⟨rfl, hb2⟩; obtain ⟨hc2, hf2⟩ := bcell hb2; have hz2 := hb2.size; (try simp only [World.size_alloc] at hz2); (try simp only [World.size_setCell] at hz2)
      go_wp2_with fail
      refine (all_any _ _ (by simp) s _ (hB1.belowS hb2)).mono ?_
      rw [Hs.out, if_neg (by simp), if_neg (by simp), errV_ne (by decide)]
      rintro e w3 ⟨rfl, hB3, hF3⟩
      go_wp2_with fail
      go_ret
      refine ⟨rfl, Below.stepFr ?_ hF3 (by omega) (by omega)⟩
      (repeat (first | with_reducible exact Below.refl _ _ | with_reducible assumption | (with_reducible refine Below.drew ?_) | (with_reducible refine Below.manyDrew ?_ _) | ((with_reducible refine Below.alloc ?_ ?_ _); rotate_left; (focus (first | omega | (dsimp only; omega) | (simp; done) | (simp; omega)))) | ((with_reducible refine Below.setCell ?_ ?_ _); rotate_left; (focus (first | omega | (dsimp only; omega) | (simp; done) | (simp; omega)))) | ((with_reducible refine Below.step ?_ (by assumption) ?_); rotate_left; (focus (first | omega | (dsimp only; omega) | (simp; done) | (simp; omega))))))
  · have Hs := hid hd
    have hs := seqB_true.1 hd
    have H8 := hid (allL_get (fs := List.replicate 8 0) (by simp) hd 8 (Nat.le_refl _) j)
    have H8' : Hid ((allL (List.replicate 8 0) s 8).getD j 0 = s) := by
      show _ = _
      rw [H8.out, if_pos hj, zeros_get]
      omega
    clear hd H8
    go_enter Try.func5, Try.ntmps5
    go_wp2_with fail
    refine (new_floor _).mono ?_
    rintro e w1 ⟨rfl, hB1, hb1⟩
    obtain ⟨hc1, hf1⟩ := bcell hb1
    have hz1 := hb1.size
    have hl0 := hB1.lt
    simp only [World.size_alloc] at hz1 hB1 hl0
    have hl1 : w.heap.size < w1.heap.size := by omega
    go_wp2_with fail
    refine (may_any _ _ (by simp) j v a g t ht _ hB1).mono ?_
    rw [if_pos Hc.out, He.out, Int.toNat_natCast, Ha.out]
    rintro e w2 ⟨rfl, hb2⟩; obtain ⟨hc2, hf2⟩ := bcell hb2; have hz2 := hb2.size; (try simp only [World.size_alloc] at hz2); (try simp only [World.size_setCell] at hz2)
    have hl2 : w.heap.size < w2.heap.size := by omega
    go_wp2_with fail
    refine (all_any _ _ (by simp) s _ (hB1.belowS hb2)).mono ?_
    rw [Hs.out, if_pos rfl, if_pos rfl, errV_zero]
    rintro e w3 ⟨rfl, hB3, hF3⟩
    obtain ⟨hc3, hf3⟩ := fcell hF3
    have hz3 := hF3.size
    have hl3 : w.heap.size < w3.heap.size := by omega
    go_wp2_with fail
    refine (may_any _ _ (by rw [allL_length]; simp) j v a g t ht _ hB3).mono ?_
    rw [if_pos Hc.out, He.out, Int.toNat_natCast, H8'.out]
    rintro e w4 ⟨rfl, hb4⟩; obtain ⟨hc4, hf4⟩ := bcell hb4; have hz4 := hb4.size; (try simp only [World.size_alloc] at hz4); (try simp only [World.size_setCell] at hz4)
    have hl4 : w.heap.size < w4.heap.size := by omega
    go_wp2_with fail
    refine (of_any _ _ (by rw [allL_length]; simp) j _ (hB3.belowS hb4)).mono ?_
    rw [Hk.out, if_pos rfl, if_pos rfl, errV_zero, Int.toNat_natCast, H8'.out]
    rintro e w5 ⟨rfl, rfl⟩
    go_wp2_with fail
    go_ret
    exact ⟨rfl, by (repeat (first | with_reducible exact Below.refl _ _ | with_reducible assumption | (with_reducible refine Below.drew ?_) | (with_reducible refine Below.manyDrew ?_ _) | ((with_reducible refine Below.alloc ?_ ?_ _); rotate_left; (focus (first | omega | (dsimp only; omega) | (simp; done) | (simp; omega)))) | ((with_reducible refine Below.setCell ?_ ?_ _); rotate_left; (focus (first | omega | (dsimp only; omega) | (simp; done) | (simp; omega)))) | ((with_reducible refine Below.step ?_ (by assumption) ?_); rotate_left; (focus (first | omega | (dsimp only; omega) | (simp; done) | (simp; omega)))) | ((with_reducible refine Below.stepFr ?_ (by assumption) ?_ ?_); rotate_left; (focus (first | omega | (dsimp only; omega) | (simp; done) | (simp; omega))); (focus (first | omega | (dsimp only; omega) | (simp; done) | (simp; omega))))))⟩

set_option maxRecDepth 100000 in
theorem floorFirst_walk : LawWalk Try.prog 5 Try.f5 (fun _ => True) := by
  intro W base args H enc ds p hval hA _
  rw [Try.params5] at hA hval
  obtain ⟨v0, v1, d0, d1, p0, p1, rfl, rfl, rfl, h0, h1⟩ := trodAll_two hA
  obtain ⟨⟨k, v, a, g, t⟩, rfl, hg⟩ := arg_struct Try.underlying28 codecEntry (hval 0 28 v0 rfl rfl) h0
  obtain ⟨s, rfl, _⟩ := arg_int Try.underlying3 (hval 1 3 v1 rfl rfl) h1
  by_cases hc : chk ⟨k, v, a, g, t⟩ = 0
  · have hk := keyB_true.1 (chk_zero.1 hc).1
    have ha := chk_facts0 hc
    simp only at hk
    obtain ⟨j, rfl⟩ := Int.eq_ofNat_of_zero_le hk.1
    exact floorFirst_ok j v a g t s hg.2.2.2 W hc (by omega) ha
  · exact floorFirst_bad k v a g t s hg.2.2.2 W hc

set_option maxRecDepth 100000 in
theorem floorFirst_lifted (os : Os) (started : os.Started) (H : Type) (enc : TypeId × Value → H) :
    ReturnsInHanded {} Try.checked os 5 .any (Rows.floorFirstSpec.pre6 enc Try.prog Try.f5 Rows.floorFirstRow.domain false) (Rows.floorFirstSpec.post enc Try.prog Try.f5 false true false false) :=
  law_lifted (C := Try.checked) Rows.floorFirstRow.domain Try.own started (by kernel_rfl) Try.func5 Try.laidOut (by kernel_rfl) rfl Try.underlying4 rfl (fun ds h => by match ds, h with | [_, _], _ => rfl)
    (ChangeSpec.witness6 (enc := enc) (C := Try.checked) false ⟨#[], #[.agg #[.int .i64 0, .int .i64 0, .int .i64 0, .bool false, .string ⟨#[]⟩], .int .i64 0], []⟩ 8 (by kernel_rfl) (by kernel_rfl) (by kernel_rfl) (by kernel_rfl)) floorFirst_walk

theorem floorFirst_holds : Rows.FloorFirstSaid :=
  OpenClaim.holds_of_wide 5 Try.f5 rfl rfl rfl rfl rfl rfl rfl ⟨rfl, rfl, rfl, rfl, rfl⟩ rfl rfl rfl rfl rfl (by kernel_rfl) Try.func5 (by kernel_rfl)
    (of_decide_eq_true (by kernel_rfl)) (by unfold Func.isWrapper; rw [if_neg (of_decide_eq_false (by kernel_rfl))]; exact ⟨rfl, rfl⟩)
    (fun os started H enc _ => floorFirst_lifted os started H enc)

end Go.Proofs.Ytbaagbmnkcempaa
