/-
  PROVED HERE: merelaw4.HashTwo returns true for every two numbers: the number of two is that of their text. CONDITIONS: the library's tables as the program's text lays them (tied by the card).
-/
import Derived.Test.YtlcdipodjjoflaaDoorHOne
import Derived.Deep.DeepCutAuto
import Derived.Deep.CutBlock
import Derived.ChangeVars
import Derived.JoinedOf
import Derived.Stop.Joined
namespace Go.Proofs.YtlcdipodjjoflaaDoor
open Go.RowKit
open Go.ChangeShapes Go.WideShapes Go.ChangeAt

set_option maxRecDepth 100000 in
theorem hashTwo_bad (a b : Int) (w : World) (ht : Tb w) (h : (numB a && numB b) = false) :
    Calls Tryd.prog 3 #[.int .i64 a, .int .i64 b] w fun e w' => e = .returned (.bool true) ∧ Below w.heap.size w w' := by
  have HT := hid (two_any a b w ht)
  rw [show twoN a b = 0 by rw [twoN, h]; rfl, show errV (twoE a b) = .iface 38 (.int .i64 1) by rw [twoE, h]; rfl] at HT
  clear ht
  have hc : a < 0 ∨ 4294967296 ≤ a ∨ (0 ≤ a ∧ a < 4294967296 ∧ b < 0) ∨ (0 ≤ a ∧ a < 4294967296 ∧ 4294967296 ≤ b) := by
    rcases hA : numB a with _ | _
    · rcases numB_false.1 hA with h | h
      · exact .inl h
      · exact .inr (.inl h)
    · have hB : numB b = false := by rw [hA, Bool.true_and] at h; exact h
      have h1 := numB_true.1 hA
      rcases numB_false.1 hB with h | h
      · exact .inr (.inr (.inl ⟨h1.1, h1.2, h⟩))
      · exact .inr (.inr (.inr ⟨h1.1, h1.2, h⟩))
  clear h
  replace hc : a < 0 ∨ (4294967296 ≤ a ∧ 4294967295 < a) ∨ (0 ≤ a ∧ a ≤ 4294967295 ∧ b < 0) ∨ (0 ≤ a ∧ a ≤ 4294967295 ∧ 0 ≤ b ∧ 4294967295 < b) := by omega
  rcases hc with h | ⟨h, h'⟩ | ⟨h1, h2, h⟩ | ⟨h1, h2, h3, h⟩
  all_goals
    go_enter Tryd.func3, Tryd.ntmps3
    go_wp2_with fail
    refine HT.out.mono ?_
    rintro e w1 ⟨rfl, hb1⟩
    have Hb := hid hb1
    clear hb1
    go_wp2_with fail
    all_goals first | omega | (go_ret; exact ⟨rfl, Hb.out⟩)

set_option maxRecDepth 100000 in
theorem hashTwo_big (a b : Int) (w : World) (ht : Tb w) (h : (numB a && numB b) = true) (h9 : 9 < a ∨ 9 < b) :
    Calls Tryd.prog 3 #[.int .i64 a, .int .i64 b] w fun e w' => e = .returned (.bool true) ∧ Below w.heap.size w w' := by
  have HT := hid (two_any a b w ht)
  rw [show twoN a b = (hashL (pairT a b) : Nat) by rw [twoN, h]; rfl, show errV (twoE a b) = .nilIface by rw [twoE, h]; rfl] at HT
  rw [Bool.and_eq_true] at h
  obtain ⟨a0, a1⟩ := numB_true.1 h.1
  obtain ⟨b0, b1⟩ := numB_true.1 h.2
  have hl := hash_lt (pairT a b)
  clear ht h
  generalize hashL (pairT a b) = n at *
  have hn0 : (0 : Int) ≤ (n : Int) := by omega
  have hn1 : (n : Int) ≤ 4294967295 := by omega
  have hc : 9 < a ∨ (a ≤ 9 ∧ 9 < b) := by omega
  clear h9
  rcases hc with h9 | ⟨h8, h9⟩
  all_goals
    go_enter Tryd.func3, Tryd.ntmps3
    go_wp2_with fail
    refine HT.out.mono ?_
    rintro e w1 ⟨rfl, hb1⟩
    have Hb := hid hb1
    clear hb1
    go_wp2_with fail
    all_goals first | omega | (go_ret; exact ⟨rfl, Hb.out⟩)

def digs : ByteArray := ⟨#[48, 49, 50, 51, 52, 53, 54, 55, 56, 57]⟩
theorem digs_fin : ∀ k : Fin 10, (digs.extract k.val (k.val + 1)).data.toList = [UInt8.ofNat (48 + k.val)] := by decide +kernel
theorem digs_at {k : Nat} (hk : k < 10) : bytesOf (digs.extract k (k + 1)) = [UInt8.ofNat (48 + k)] := digs_fin ⟨k, hk⟩
theorem itoa_digit {k : Nat} (hk : k < 10) : Go.Lib.itoa (k : Int) = [UInt8.ofNat (48 + k)] := by
  rw [Go.Lib.itoa, if_neg (by omega), Int.toNat_natCast, Go.Lib.decDigits, dif_pos hk]
theorem bytesOf_append (x y : ByteArray) : bytesOf (x ++ y) = bytesOf x ++ bytesOf y := by simp [bytesOf]
theorem pairT_app (a b : Int) : pairT a b = Go.Lib.itoa a ++ [47] ++ Go.Lib.itoa b := by
  rw [pairT, Go.Lib.join_cons]; simp [Go.Lib.joinTail]

set_option maxRecDepth 100000 in
theorem hashTwo_small (a b : Nat) (w : World) (ht : Tb w) (ha : a ≤ 9) (hb : b ≤ 9) :
    Calls Tryd.prog 3 #[.int .i64 a, .int .i64 b] w fun e w' => e = .returned (.bool true) ∧ Below w.heap.size w w' := by
  have h : (numB a && numB b) = true := by rw [Bool.and_eq_true]; exact ⟨numB_true.2 (by omega), numB_true.2 (by omega)⟩
  have HT := hid (two_any a b w ht)
  rw [show twoN a b = (hashL (pairT a b) : Nat) by rw [twoN, h]; rfl, show errV (twoE a b) = .nilIface by rw [twoE, h]; rfl] at HT
  clear ht h
  have HS : ∀ S : ByteArray, digs.extract a (a + 1) ++ ⟨#[47]⟩ ++ digs.extract b (b + 1) = S → bytesOf S = pairT a b := by
    rintro S rfl
    rw [bytesOf_append, bytesOf_append, digs_at (by omega), digs_at (by omega), pairT_app, itoa_digit (by omega), itoa_digit (by omega)]
    rfl
  obtain ⟨n, hn⟩ : ∃ n, hashL (pairT a b) = n := ⟨_, rfl⟩
  rw [hn] at HT
  have Hn := hid hn
  clear hn
  have HP := hid (show (pairT a b).length = 3 by rw [pairT_app, itoa_digit (by omega), itoa_digit (by omega)]; rfl)
  go_enter Tryd.func3, Tryd.ntmps3
  go_wp2_with fail
  refine HT.out.mono ?_
  rintro e w1 ⟨rfl, hb1⟩
  have Hb := hid hb1
  have hz1 := hb1.size
  clear hb1
  go_upto_region 8 with fail
  go_region
  rw [show (⟨#[48, 49, 50, 51, 52, 53, 54, 55, 56, 57]⟩ : ByteArray) = digs from rfl]
  obtain ⟨S, hS⟩ : ∃ S, digs.extract a (a + 1) ++ ⟨#[47]⟩ ++ digs.extract b (b + 1) = S := ⟨_, rfl⟩
  have hB := HS S hS
  rw [hS]
  have hz : S.size = 3 := by rw [← bytesOf_len, hB, HP.out]
  have HX := hid (text_any S w1.drew (by unfold maxLen; omega))
  rw [show textN S = (n : Int) by rw [textN, if_pos (by omega), hB, Hn.out], show errV (textE S) = .nilIface by rw [textE, if_pos (by omega)]; rfl] at HX
  clear hS HS hB hz
  go_wp2_with fail
  refine HX.out.mono ?_
  rintro e w2 ⟨rfl, hb2⟩
  have hb3 : Below w.heap.size w w2 := Below.trans (Below.drew Hb.out) (hb2.mono hz1)
  go_wp2_with fail
  go_ret
  exact ⟨rfl, hb3⟩

set_option maxRecDepth 100000 in
theorem hashTwo_any (a b : Int) (w : World) (ht : Tb w) : Calls Tryd.prog 3 #[.int .i64 a, .int .i64 b] w fun e w' => e = .returned (.bool true) ∧ Below w.heap.size w w' := by
  rcases h : (numB a && numB b) with _ | _
  · exact hashTwo_bad a b w ht h
  · by_cases h9 : 9 < a ∨ 9 < b
    · exact hashTwo_big a b w ht h h9
    · rw [Bool.and_eq_true] at h
      obtain ⟨a0, a1⟩ := numB_true.1 h.1
      obtain ⟨b0, b1⟩ := numB_true.1 h.2
      obtain ⟨x, rfl⟩ := Int.eq_ofNat_of_zero_le a0
      obtain ⟨y, rfl⟩ := Int.eq_ofNat_of_zero_le b0
      exact hashTwo_small x y w ht (by omega) (by omega)

set_option maxRecDepth 100000 in
theorem hashTwo_walk : LawWalk Tryd.prog 3 Tryd.f3 Tb := by
  intro W base args H enc ds p hval hA ht
  rw [Tryd.params3] at hA hval
  obtain ⟨v0, v1, d0, d1, p0, p1, rfl, rfl, rfl, h0, h1⟩ := trodAll_two hA
  obtain ⟨a, rfl, _⟩ := arg_int Tryd.underlying3 (hval 0 3 v0 rfl rfl) h0
  obtain ⟨b, rfl, _⟩ := arg_int Tryd.underlying3 (hval 1 3 v1 rfl rfl) h1
  exact hashTwo_any a b W ht

set_option maxRecDepth 100000 in
theorem hashTwo_lifted (os : Os) (started : os.Started) (H : Type) (enc : TypeId × Value → H) :
    ReturnsInHanded {} Tryd.checked os 3 .any (fun w args => (Rows.hashTwoSpec.pre enc Tryd.checked.prog Tryd.f3 [] false w args ∧ laidMetH Tryd.prog laid3 w) ∧ sizedMet enc Tryd.checked.prog Tryd.f3 (OpenSpec.ofChange Rows.hashTwoSpec) false w args) (Rows.hashTwoSpec.post enc Tryd.checked.prog Tryd.f3 false true false false) :=
  laid_lifted (C := Tryd.checked) laid3 (fun _ h => tb_of_laid3 h) [] Tryd.own started (by kernel_rfl) Tryd.func3 Tryd.laidOut (by kernel_rfl) rfl Tryd.underlying4 rfl (fun ds h => by match ds, h with | [_, _], _ => rfl)
    (ChangeSpec.witness_shaped (enc := enc) (C := Tryd.checked) (os := os) (X := fun w _ => laidMetH Tryd.prog laid3 w) false (World.doorLaid Tryd.prog 4000 os) #[.int .i64 0, .int .i64 0] 8 rfl (World.shaped_of_RefB (by kernel_rfl) (by kernel_rfl)) (by kernel_rfl) (by kernel_rfl) (by kernel_rfl) (door_met3 os _)) hashTwo_walk

theorem hashTwo_row : Rows.HashTwoSaid :=
  OpenClaim.holds_of_wide 3 Tryd.f3 rfl rfl rfl rfl rfl rfl rfl ⟨rfl, rfl, rfl, rfl, rfl⟩ rfl rfl rfl rfl rfl (by kernel_rfl) Tryd.func3 (by kernel_rfl)
    (of_decide_eq_true (by kernel_rfl)) (by unfold Func.isWrapper; rw [if_neg (of_decide_eq_false (by kernel_rfl))]; exact ⟨rfl, rfl⟩)
    (fun os started H enc _ => hashTwo_lifted os started H enc)

theorem hashTwo_holds : Rows.HashTwoCardSaid :=
  Claim7.holds_tied_plain_at .later [] [.data, .data, .data] true _ true
    hashTwo_row (fun _ h => by cases h) (by kernel_rfl) (fun _ h => by cases h) hashTwo_row_tie rfl ⟨rfl, rfl⟩ (by kernel_rfl) rfl
    (fun f fn hf hfn => by
      obtain rfl : f = 3 := Option.some.inj ((show Tryd.prog.funcNamed "beaconmere/merelaw4.HashTwo" = some 3 by kernel_rfl).symm.trans hf) |>.symm
      obtain rfl : fn = Tryd.f3 := (Option.some.inj (Tryd.func3.symm.trans hfn)).symm
      refine ⟨by kernel_rfl, fun j t ht => ?_⟩
      have hall : Tryd.f3.params.toList.all (fun t => !Tryd.prog.wantsStandIn t) = true := by kernel_rfl
      have hm : t ∈ Tryd.f3.params.toList := by
        obtain ⟨hj, hje⟩ := Array.getElem?_eq_some_iff.1 ht
        rw [← hje]
        exact Array.mem_toList_iff.2 (Array.getElem_mem hj)
      have := List.all_eq_true.1 hall t hm
      exact (show Tryd.prog.wantsStandIn t = false by simpa using this))
    (by kernel_rfl)

end Go.Proofs.YtlcdipodjjoflaaDoor
