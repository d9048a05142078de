/-
  PROVED HERE: merelaw4.RingLone returns true: one alone has all. CONDITIONS: the library's tables and errors.errorType as the program's text lays them (tied by the card).
-/
import Derived.Test.YtepddjfbkjplfaaDoorRgUse
import Derived.Test.YtepddjfbkjplfaaDoorDoorT
import Derived.ChangeVars
import Derived.JoinedOf
import Derived.Stop.Joined
namespace Go.Proofs.YtepddjfbkjplfaaDoor
open Go.RowKit
open Go.ChangeShapes Go.WideShapes Go.ChangeAt

set_option maxHeartbeats 8000000 in
set_option maxRecDepth 100000 in
theorem ringLone_any (node each key : Int) (w : World) (htb : Tb w) (hgl : Gl w) :
    Calls Tryd.prog 4 #[.int .i64 node, .int .i64 each, .int .i64 key] w fun e w' => e = .returned (.bool true) ∧ Below w.heap.size w w' := by
  obtain ⟨X, hX⟩ : ∃ X, X = w.alloc (.cells #[.int .i64 node] 3) := ⟨_, rfl⟩
  have hbX : Below w.heap.size w X := by rw [hX]; exact (Below.refl _ _).alloc (Nat.le_refl _) _
  have hs1 : IntsAt X ⟨some ⟨w.heap.size, 0, none⟩, 1, [node]⟩ := by
    rw [hX]; exact IntsAt.of_blk (l := [node]) (Blk.new w 3 (ints [node])) 1 (by show 1 ≤ maxLen; unfold maxLen; omega)
  have HPt := hid (gpoints_any ⟨some ⟨w.heap.size, 0, none⟩, 1, [node]⟩ each X hs1 ⟨Nat.le_refl _, by show 1 ≤ maxLen; unfold maxLen; omega⟩ (htb.belowS hbX))
  have HT := hid (fun W (hW : Below X.heap.size X W) => (htb.belowS hbX).belowS hW)
  have HG := hid (fun W (hW : Below X.heap.size X W) => (hgl.belowS hbX).belowS hW)
  have hzX := hbX.size
  have HbX := hid hbX
  have HX := hid hX
  clear hs1 htb hgl hX hbX
  unfold GPts at HPt
  simp only at HPt
  by_cases h0 : ptsE [node] each = 0
  case neg =>
    have ho := ptsE_one h0
    rw [errV_ne h0] at HPt
    generalize ptsE [node] each = en at *
    rcases (show node < 0 ∨ (¬ node < 0 ∧ 5 < node) ∨ (¬ node < 0 ∧ ¬ 5 < node ∧ each < 1) ∨ (¬ node < 0 ∧ ¬ 5 < node ∧ ¬ each < 1 ∧ 8 < each) by omega) with h | ⟨h, h1⟩ | ⟨h, h1, h2⟩ | ⟨h, h1, h2, h3⟩
    all_goals
      clear h0 ho
      go_enter Tryd.func4, Tryd.ntmps4
      go_wp2_with fail
      rw [← HX.out]
      refine HPt.out.mono ?_
      rintro e w1 ⟨r, rfl, -, -, -, hb1⟩
      have Hb1 := hid (Below.step HbX.out hb1 hzX)
      clear hb1
      go_wp2_with fail
      go_ret
      exact ⟨rfl, Hb1.out⟩
  case pos =>
  obtain ⟨⟨-, -, hnB⟩, he1, he8⟩ := ptsE_ok h0
  have hnB := nodeB_true.1 (hnB node (by simp))
  have hri := ptsE_right h0
  rw [h0, errV_zero] at HPt
  simp only [if_true] at HPt
  obtain ⟨m, rfl⟩ := Int.eq_ofNat_of_zero_le (show 0 ≤ each by omega)
  rw [Int.toNat_natCast] at HPt hri
  have hm : 0 < m := by omega
  have hlp := ptsC_pos (l := [node]) (by simp) hm
  have hle := ptsC_length [node] m
  rw [List.length_singleton, Nat.one_mul] at hle
  have HLf := hid (show ∀ (r : SlV Pt), r.xs = ptsC [node] m → 1 ≤ r.xs.length ∧ r.xs.length ≤ m ∧ rightP r.xs = true ∧ (keyB key = true → rgE r.xs key = 0 ∧ ownerP r.xs key = node ∧ ownsE r.xs key 2 = 5) from fun r hrx => by
    rw [hrx]
    refine ⟨hlp, hle, hri, fun hk => ?_⟩
    have hE : rgE (ptsC [node] m) key = 0 := by rw [rgE, if_pos hri, if_pos hk]
    refine ⟨hE, List.mem_singleton.1 (owner_in (by simp) hm key), ?_⟩
    rw [ownsE, if_pos hE, if_neg (by omega), lone_owns hm key, if_pos (by decide)])
  clear hlp hle hri h0
  by_cases hk : 0 ≤ key ∧ key < 8
  · obtain ⟨hk0, hk8⟩ := hk
    have hk1 : ¬ key < 0 := by omega
    have hk7 : ¬ 7 < key := by omega
    go_enter Tryd.func4, Tryd.ntmps4
    go_wp2_with fail
    rw [← HX.out]
    refine HPt.out.mono ?_
    rintro e w1 ⟨r, rfl, hrx, hrA, hro, hb1⟩
    obtain ⟨hl1, hlm, -, hkk⟩ := HLf.out r hrx
    obtain ⟨hE, hOw, hE2⟩ := hkk (keyB_true.2 ⟨hk0, hk8⟩)
    have HO1 := rowner_any r key w1 hrA (HT.out w1 hb1)
    rw [hE, hOw, if_pos rfl, errV_zero] at HO1
    have HO1 := hid HO1
    have HO2 := hid (fun W (hW : Below w1.heap.size w1 W) => rowners_any r key 2 W (hrA.stays hW) hro ((HT.out w1 hb1).belowS hW))
    unfold ROwns at HO2
    rw [hE2] at HO2
    have HEr := hid (fun W (hW : Below w1.heap.size w1 W) => error_any 5 5 W ((HG.out w1 hb1).belowS hW))
    rw [show errV 5 = .iface 39 (.int .i64 5) from rfl] at HO2 HEr
    have Hb1 := hid (Below.step HbX.out hb1 hzX)
    have hz1 := Hb1.out.size
    have hl1' : (1 : Int) ≤ (r.xs.length : Int) := by omega
    have hlm' : (r.xs.length : Int) ≤ (m : Int) := by omega
    clear hrx hrA hro hb1 hkk hE hOw hE2 HT HG HLf HPt
    go_wp2_with fail
    refine HO1.out.mono ?_
    rintro e w2 ⟨rfl, hb2⟩
    have HO3 := hid (HO2.out w2 hb2)
    have Hb12 := hid hb2
    have Hb2 := hid (Below.step Hb1.out hb2 hz1)
    have hz2 := Hb2.out.size
    clear hb2 HO2
    go_wp2_with fail
    refine HO3.out.mono ?_
    rintro e w3 ⟨q, rfl, -, -, -, hb3⟩
    have HE3 := hid (HEr.out w3 (Below.step Hb12.out hb3 Hb12.out.size))
    have Hb3 := hid (Below.step Hb2.out hb3 hz2)
    have hz3 := Hb3.out.size
    clear hb3 HEr
    go_wp2_with fail
    refine HE3.out.mono ?_
    rintro e w4 ⟨rfl, hb4⟩
    have Hb4 := hid (Below.step Hb3.out hb4 hz3)
    clear hb4
    go_wp2_with fail
    go_ret
    exact ⟨rfl, Hb4.out⟩
  · rcases (show key < 0 ∨ (¬ key < 0 ∧ 7 < key) by omega) with h | ⟨h, h1⟩
    all_goals
      have hkB : ¬ keyB key = true := fun h => hk (keyB_true.1 h)
      clear hk
      go_enter Tryd.func4, Tryd.ntmps4
      go_wp2_with fail
      rw [← HX.out]
      refine HPt.out.mono ?_
      rintro e w1 ⟨r, rfl, hrx, hrA, hro, hb1⟩
      obtain ⟨-, -, hri, -⟩ := HLf.out r hrx
      have HO1 := rowner_any r key w1 hrA (HT.out w1 hb1)
      rw [rgE, if_pos hri, if_neg hkB, errV_ne (by decide)] at HO1
      have HO1 := hid HO1
      have Hb1 := hid (Below.step HbX.out hb1 hzX)
      have hz1 := Hb1.out.size
      clear hrx hrA hro hb1 hri HT HG HLf HPt hkB
      go_wp2_with fail
      refine HO1.out.mono ?_
      rintro e w2 ⟨rfl, hb2⟩
      have Hb2 := hid (Below.step Hb1.out hb2 hz1)
      clear hb2
      go_wp2_with fail
      go_ret
      exact ⟨rfl, Hb2.out⟩

set_option maxRecDepth 100000 in
theorem ringLone_walk : LawWalk Tryd.prog 4 Tryd.f4 (fun W => Tb W ∧ Gl W) := by
  intro W base args H enc ds p hval hA hgl
  rw [Tryd.params4] at hA hval
  obtain ⟨v0, v1, v2, d0, d1, d2, p0, p1, p2, rfl, rfl, rfl, h0, h1, h2⟩ := trodAll_three hA
  obtain ⟨n, rfl, _⟩ := arg_int Tryd.underlying3 (hval 0 3 v0 rfl rfl) h0
  obtain ⟨i, rfl, _⟩ := arg_int Tryd.underlying3 (hval 1 3 v1 rfl rfl) h1
  obtain ⟨k, rfl, _⟩ := arg_int Tryd.underlying3 (hval 2 3 v2 rfl rfl) h2
  exact ringLone_any n i k W hgl.1 hgl.2

set_option maxRecDepth 100000 in
theorem ringLone_lifted (os : Os) (started : os.Started) (H : Type) (enc : TypeId × Value → H) :
    ReturnsInHanded {} Tryd.checked os 4 .any (fun w args => (Rows.ringLoneSpec.pre enc Tryd.checked.prog Tryd.f4 [] false w args ∧ laidMetH Tryd.prog laid4 w) ∧ sizedMet enc Tryd.checked.prog Tryd.f4 (OpenSpec.ofChange Rows.ringLoneSpec) false w args) (Rows.ringLoneSpec.post enc Tryd.checked.prog Tryd.f4 false true false false) :=
  laid_lifted (C := Tryd.checked) laid4 (fun _ h => tb_of_laid4 h) [] Tryd.own started (by kernel_rfl) Tryd.func4 Tryd.laidOut (by kernel_rfl) rfl Tryd.underlying4 rfl (fun ds h => by match ds, h with | [_, _, _], _ => rfl)
    (ChangeSpec.witness_shaped (enc := enc) (C := Tryd.checked) (os := os) (X := fun w _ => laidMetH Tryd.prog laid4 w) false (World.doorLaid Tryd.prog 4000 os) #[.int .i64 0, .int .i64 0, .int .i64 0] 8 rfl (World.shaped_of_RefB (by kernel_rfl) (by kernel_rfl)) (by kernel_rfl) (by kernel_rfl) (by kernel_rfl) (door_met4 os _)) ringLone_walk

theorem ringLone_row : Rows.RingLoneSaid :=
  OpenClaim.holds_of_wide 4 Tryd.f4 rfl rfl rfl rfl rfl rfl rfl ⟨rfl, rfl, rfl, rfl, rfl⟩ rfl rfl rfl rfl rfl (by kernel_rfl) Tryd.func4 (by kernel_rfl)
    (of_decide_eq_true (by kernel_rfl)) (by unfold Func.isWrapper; rw [if_neg (of_decide_eq_false (by kernel_rfl))]; exact ⟨rfl, rfl⟩)
    (fun os started H enc _ => ringLone_lifted os started H enc)

theorem ringLone_holds : Rows.RingLoneCardSaid :=
  Claim7.holds_tied_plain_at .later [] [.data, .data, .data, .handle] true _ true
    ringLone_row (fun _ h => by cases h) (by kernel_rfl) (fun _ h => by cases h) ringLone_row_tie rfl ⟨rfl, rfl⟩ (by kernel_rfl) rfl
    (fun f fn hf hfn => by
      obtain rfl : f = 4 := Option.some.inj ((show Tryd.prog.funcNamed "beaconmere/merelaw4.RingLone" = some 4 by kernel_rfl).symm.trans hf) |>.symm
      obtain rfl : fn = Tryd.f4 := (Option.some.inj (Tryd.func4.symm.trans hfn)).symm
      refine ⟨by kernel_rfl, fun j t ht => ?_⟩
      have hall : Tryd.f4.params.toList.all (fun t => !Tryd.prog.wantsStandIn t) = true := by kernel_rfl
      have hm : t ∈ Tryd.f4.params.toList := by
        obtain ⟨hj, hje⟩ := Array.getElem?_eq_some_iff.1 ht
        rw [← hje]
        exact Array.mem_toList_iff.2 (Array.getElem_mem hj)
      have := List.all_eq_true.1 hall t hm
      exact (show Tryd.prog.wantsStandIn t = false by simpa using this))
    (by kernel_rfl)

end Go.Proofs.YtepddjfbkjplfaaDoor
