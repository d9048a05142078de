/-
  PROVED HERE: merelaw3.RunSwaps returns true: what one node put, another one has behind a swap, and tells of its cache. CONDITIONS: the library's variables as the program's text lays them (tied by the card).
-/
import Derived.Test.YtemhdfodghfkfaaGreatDoorRunRun
import Derived.Test.YtemhdfodghfkfaaGreatDoorRefKit
import Derived.Test.YtemhdfodghfkfaaGreatDoorDoorR
namespace Go.Proofs.YtemhdfodghfkfaaGreatDoor
open Go.RowKit
open Go.ChangeShapes Go.WideShapes Go.ChangeAt

/-- the session -/
def swT (a b k : Tx) : Tx := [112, 117, 116, 32] ++ a ++ [32] ++ k ++ [32, 122, 10, 115, 119, 97, 112, 32] ++ b ++ [32] ++ a ++ [10, 103, 101, 116, 32] ++ b ++ [32] ++ k ++ [32, 49, 10, 99, 97, 99, 104, 101, 32] ++ b ++ [10]
theorem sw_fact : ∀ (a b : Fin 3) (k : Fin 8), a ≠ b → cutC 10 (runT (swT (digN a.val) (digN b.val) (digN k.val))) = [[49], [111, 107], [49, 45, 49, 32, 122, 32, 99, 97, 99, 104, 101, 100], digN k.val, []] ∧ (runT (swT (digN a.val) (digN b.val) (digN k.val))).length ≤ 100 := by decide +kernel
def swBad : Tx := [115, 119, 97, 112, 32, 49, 32, 49, 10]
theorem swBad_is : runT swBad = [69, 114, 114, 83, 104, 97, 112, 101, 10] := by decide +kernel
theorem sw_text (a b k : Tx) : (⟨#[112, 117, 116, 32]⟩ : ByteArray) ++ mkB a ++ ⟨#[32]⟩ ++ mkB k ++ ⟨#[32, 122, 10, 115, 119, 97, 112, 32]⟩ ++ mkB b ++ ⟨#[32]⟩ ++ mkB a ++ ⟨#[10, 103, 101, 116, 32]⟩ ++ mkB b ++ ⟨#[32]⟩ ++ mkB k ++ ⟨#[32, 49, 10, 99, 97, 99, 104, 101, 32]⟩ ++ mkB b ++ ⟨#[10]⟩ = mkB (swT a b k) := by
  show mkB [112, 117, 116, 32] ++ mkB a ++ mkB [32] ++ mkB k ++ mkB [32, 122, 10, 115, 119, 97, 112, 32] ++ mkB b ++ mkB [32] ++ mkB a ++ mkB [10, 103, 101, 116, 32] ++ mkB b ++ mkB [32] ++ mkB k ++ mkB [32, 49, 10, 99, 97, 99, 104, 101, 32] ++ mkB b ++ mkB [10] = mkB (swT a b k)
  simp only [mkB_append]
  rfl
theorem digN_one {n : Nat} (h : n < 10) : (digN n).length = 1 := by rw [digN, if_pos h]; rfl
set_option maxHeartbeats 8000000 in
set_option maxRecDepth 100000 in
theorem swaps_bad (a b key : Int) (hbad : a < 0 ∨ 2 < a ∨ b < 0 ∨ 2 < b ∨ key < 0 ∨ 7 < key ∨ a = b) (w : World) (hT : Tr w) :
    Calls Tryz.prog 5 #[.int .i64 a, .int .i64 b, .int .i64 key] w fun e w' => e = .returned (.bool true) ∧ Below w.heap.size w w' := by
  have HR := hid (show Calls Tryz.prog 6 #[.string ⟨#[115, 119, 97, 112, 32, 49, 32, 49, 10]⟩] w (fun e w' => e = .returned (.string ⟨#[69, 114, 114, 83, 104, 97, 112, 101, 10]⟩) ∧ Below w.heap.size w w') from by
    have h := run_any swBad (by unfold maxLen; decide) w hT
    rw [swBad_is] at h
    exact h)
  clear hT
  by_cases h1 : a < 0
  rotate_left
  by_cases h2 : 2 < a
  rotate_left
  by_cases h3 : b < 0
  rotate_left
  by_cases h4 : 2 < b
  rotate_left
  by_cases h5 : key < 0
  rotate_left
  by_cases h6 : 7 < key
  rotate_left
  obtain rfl : a = b := by omega
  all_goals
    clear hbad
    go_enter Tryz.func5, Tryz.ntmps5
    go_wp2_with fail
    refine HR.out.mono ?_
    rintro e w1 ⟨rfl, hb1⟩
    go_wp2_with fail
    go_ret
    exact ⟨rfl, hb1⟩
set_option maxHeartbeats 8000000 in
set_option maxRecDepth 100000 in
theorem swaps_good (a b k : Nat) (ha : a < 3) (hb : b < 3) (hk : k < 8) (hab : a ≠ b) (w : World) (hT : Tr w) :
    Calls Tryz.prog 5 #[.int .i64 (a : Int), .int .i64 (b : Int), .int .i64 (k : Int)] w fun e w' => e = .returned (.bool true) ∧ Below w.heap.size w w' := by
  obtain ⟨hf, hfl⟩ := sw_fact ⟨a, ha⟩ ⟨b, hb⟩ ⟨k, hk⟩ (fun e => hab (by injection e))
  simp only at hf hfl
  have hl1 := digN_one (n := a) (by omega)
  have hl2 := digN_one (n := b) (by omega)
  have hl3 := digN_one (n := k) (by omega)
  have HA := hid (fun W => rdig_any a (by omega) W)
  have HB := hid (fun W => rdig_any b (by omega) W)
  have HK := hid (fun W => rdig_any k (by omega) W)
  generalize digN a = x at *
  generalize digN b = y at *
  generalize digN k = z at *
  have hTl : (swT x y z).length ≤ maxLen := by
    unfold swT maxLen
    simp only [List.length_append, List.length_cons, List.length_nil]
    omega
  have hX := sw_text x y z
  have HR := hid (fun (X : ByteArray) (hX : X = mkB (swT x y z)) W (hW : Below w.heap.size w W) => (show Calls Tryz.prog 6 #[.string X] W (fun e w' => e = .returned (.string (mkB (runT (swT x y z)))) ∧ Below W.heap.size W w') from by
    rw [hX]
    exact run_any _ hTl W (hT.belowS hW)))
  generalize runT (swT x y z) = o at *
  have HC := hid (fun W => (show Calls Tryz.prog 7 #[.string (mkB o), .int .u8 10] W (CutR [[49], [111, 107], [49, 45, 49, 32, 122, 32, 99, 97, 99, 104, 101, 100], z, []] W) from by
    have h := rcut_any o (by omega) 10 W
    rw [hf] at h
    exact h))
  have hs1 := mkB_size x
  have hs2 := mkB_size y
  have hs3 := mkB_size z
  rw [hl1] at hs1
  rw [hl2] at hs2
  rw [hl3] at hs3
  have HX := hid hX
  have h1 : ¬ (a : Int) < 0 := by omega
  have h2 : ¬ (2 : Int) < (a : Int) := by omega
  have h3 : ¬ (b : Int) < 0 := by omega
  have h4 : ¬ (2 : Int) < (b : Int) := by omega
  have h5 : ¬ (k : Int) < 0 := by omega
  have h6 : ¬ (7 : Int) < (k : Int) := by omega
  have h7 : ¬ (a : Int) = (b : Int) := by omega
  clear hf hfl hl1 hl2 hl3 hX hTl hT ha hb hk hab
  generalize mkB x = xB at *
  generalize mkB y = yB at *
  generalize hzB : mkB z = zB at *
  have HzB := hid hzB
  clear hzB
  go_enter Tryz.func5, Tryz.ntmps5
  go_wp2_with fail
  refine (HA.out _).mono ?_
  rintro e w1 ⟨rfl, hb1⟩
  have Hb1 := hid hb1
  clear hb1
  go_wp2_with fail
  refine (HB.out _).mono ?_
  rintro e w2 ⟨rfl, hb2⟩
  have Hb2 := hid (Below.step Hb1.out hb2 Hb1.out.size)
  clear hb2
  go_wp2_with fail
  refine (HK.out _).mono ?_
  rintro e w3 ⟨rfl, hb3⟩
  have Hb3 := hid (Below.step Hb2.out hb3 Hb2.out.size)
  clear hb3
  go_wp2_with fail
  refine (HR.out _ HX.out _ Hb3.out).mono ?_
  rintro e w4 ⟨rfl, hb4⟩
  have Hb4 := hid (Below.step Hb3.out hb4 Hb3.out.size)
  clear hb4
  go_wp2_with fail
  refine (HC.out _).mono ?_
  rintro e w5 ⟨⟨A, c, xs⟩, rfl, hxs, hst, hcap, hb5⟩
  obtain rfl : xs = [mkB [49], mkB [111, 107], mkB [49, 45, 49, 32, 122, 32, 99, 97, 99, 104, 101, 100], zB, mkB []] := by rw [← HzB.out]; exact hxs
  obtain ⟨g, og, hA, hg, hc⟩ := hst.row (by simp)
  obtain rfl : A = some ⟨g, og, none⟩ := hA
  have c0 := hc 0 (by simp)
  have c1 := hc 1 (by simp)
  have c2 := hc 2 (by simp)
  have c3 := hc 3 (by simp)
  have q0 : ((mkB [49]).toList == [49]) = true := word_is _ rfl
  have q1 : ((mkB [111, 107]).toList == [111, 107]) = true := word_is _ rfl
  have q2 : ((mkB [49, 45, 49, 32, 122, 32, 99, 97, 99, 104, 101, 100]).toList == [49, 45, 49, 32, 122, 32, 99, 97, 99, 104, 101, 100]) = true := word_is _ rfl
  have q3 : (zB.toList == zB.toList) = true := beq_self_eq_true _
  have Hb5 := hid (Below.step Hb4.out hb5 Hb4.out.size)
  simp only [List.length_cons, List.length_nil, Nat.add_zero, Nat.zero_add, List.getElem_cons_zero, List.getElem_cons_succ] at c0 c1 c2 c3 hcap ⊢
  generalize mkB [49] = l0 at *
  generalize mkB [111, 107] = l1 at *
  generalize mkB [49, 45, 49, 32, 122, 32, 99, 97, 99, 104, 101, 100] = l2 at *
  clear hb5 hc hst hxs
  go_wp2_with fail
  go_ret
  exact ⟨rfl, Hb5.out⟩
theorem swaps_any (a b key : Int) (w : World) (hT : Tr w) :
    Calls Tryz.prog 5 #[.int .i64 a, .int .i64 b, .int .i64 key] w fun e w' => e = .returned (.bool true) ∧ Below w.heap.size w w' := by
  by_cases h : a < 0 ∨ 2 < a ∨ b < 0 ∨ 2 < b ∨ key < 0 ∨ 7 < key ∨ a = b
  · exact swaps_bad a b key h w hT
  · obtain ⟨x, rfl⟩ := Int.eq_ofNat_of_zero_le (show 0 ≤ a by omega)
    obtain ⟨y, rfl⟩ := Int.eq_ofNat_of_zero_le (show 0 ≤ b by omega)
    obtain ⟨z, rfl⟩ := Int.eq_ofNat_of_zero_le (show 0 ≤ key by omega)
    exact swaps_good x y z (by omega) (by omega) (by omega) (by omega) w hT
set_option maxRecDepth 100000 in
theorem runSwaps_walk : LawWalk Tryz.prog 5 Tryz.f5 Tr := by
  intro W base args H enc ds p hval hA hT
  rw [Tryz.params5] at hA hval
  obtain ⟨v0, v1, v2, d0, d1, d2, p0, p1, p2, rfl, rfl, rfl, h0, h1, h2⟩ := trodAll_three hA
  obtain ⟨a, rfl, _⟩ := arg_int Tryz.underlying3 (hval 0 3 v0 rfl rfl) h0
  obtain ⟨b, rfl, _⟩ := arg_int Tryz.underlying3 (hval 1 3 v1 rfl rfl) h1
  obtain ⟨k, rfl, _⟩ := arg_int Tryz.underlying3 (hval 2 3 v2 rfl rfl) h2
  exact swaps_any a b k W hT

set_option maxRecDepth 100000 in
theorem runSwaps_lifted (os : Os) (started : os.Started) (H : Type) (enc : TypeId × Value → H) :
    ReturnsInHanded {} Tryz.checked os 5 .any (fun w args => (Rows.runSwapsSpec.pre enc Tryz.checked.prog Tryz.f5 [] false w args ∧ laidMetH Tryz.prog laid9 w) ∧ sizedMet enc Tryz.checked.prog Tryz.f5 (OpenSpec.ofChange Rows.runSwapsSpec) false w args) (Rows.runSwapsSpec.post enc Tryz.checked.prog Tryz.f5 false true false false) :=
  laid_lifted9 (C := Tryz.checked) laid9 (fun _ hs h => tr_of_laid9 hs h) [] Tryz.own started (by kernel_rfl) Tryz.func5 Tryz.laidOut (by kernel_rfl) rfl Tryz.underlying4 rfl (fun ds h => by match ds, h with | [_, _, _], _ => rfl)
    (ChangeSpec.witness_shaped (enc := enc) (C := Tryz.checked) (os := os) (X := fun w _ => laidMetH Tryz.prog laid9 w) false (laidWorld9 os) #[.int .i64 0, .int .i64 0, .int .i64 0] 8 (laidWorld9_os os) (World.shaped_of_RefB (by kernel_rfl) (by kernel_rfl)) (by kernel_rfl) (by kernel_rfl) (by kernel_rfl) (door_met9 os _)) runSwaps_walk

theorem runSwaps_row : Rows.RunSwapsSaid :=
  OpenClaim.holds_of_wide 5 Tryz.f5 rfl rfl rfl rfl rfl rfl rfl ⟨rfl, rfl, rfl, rfl, rfl⟩ rfl rfl rfl rfl rfl (by kernel_rfl) Tryz.func5 (by kernel_rfl)
    (of_decide_eq_true (by kernel_rfl)) (by unfold Func.isWrapper; rw [if_neg (of_decide_eq_false (by kernel_rfl))]; exact ⟨rfl, rfl⟩)
    (fun os started H enc _ => runSwaps_lifted os started H enc)

theorem runSwaps_holds : Rows.RunSwapsCardSaid :=
  Claim7.holds_tied_plain_at .later [] [.data, .data, .data, .data, .handle, .sentinel, .sentinel, .wider, .pinned] true _ true
    runSwaps_row (fun _ h => by cases h) (by kernel_rfl) (fun _ h => by cases h) runSwaps_row_tie rfl ⟨rfl, rfl⟩ (by kernel_rfl) rfl
    (fun f fn hf hfn => by
      obtain rfl : f = 5 := Option.some.inj ((show Tryz.prog.funcNamed "beaconmere/merelaw3.RunSwaps" = some 5 by kernel_rfl).symm.trans hf) |>.symm
      obtain rfl : fn = Tryz.f5 := (Option.some.inj (Tryz.func5.symm.trans hfn)).symm
      refine ⟨by kernel_rfl, fun j t ht => ?_⟩
      have hall : Tryz.f5.params.toList.all (fun t => !Tryz.prog.wantsStandIn t) = true := by kernel_rfl
      have hm : t ∈ Tryz.f5.params.toList := by
        obtain ⟨hj, hje⟩ := Array.getElem?_eq_some_iff.1 ht
        rw [← hje]
        exact Array.mem_toList_iff.2 (Array.getElem_mem hj)
      have := List.all_eq_true.1 hall t hm
      exact (show Tryz.prog.wantsStandIn t = false by simpa using this))
    (by kernel_rfl)

end Go.Proofs.YtemhdfodghfkfaaGreatDoor
