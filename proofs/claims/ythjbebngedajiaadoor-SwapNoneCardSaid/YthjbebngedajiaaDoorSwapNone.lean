/-
  PROVED HERE: merelaw4.SwapNone returns true: from nothing all that parts. CONDITIONS: the library's tables as the program's text lays them (tied by the card).
-/
import Derived.Test.YthjbebngedajiaaDoorSwapLaw
import Derived.Test.YthjbebngedajiaaDoorGive
import Derived.ChangeVars
import Derived.JoinedOf
import Derived.Stop.Joined
namespace Go.Proofs.YthjbebngedajiaaDoor
open Go.RowKit
open Go.ChangeShapes Go.WideShapes Go.ChangeAt

set_option maxHeartbeats 8000000 in
set_option maxRecDepth 100000 in
theorem swapNone_any (s : SlV E) (w : World) (hs : EsAt w s) (htb : Tb w) :
    Calls Tryd.prog 9 #[.slice s.A s.xs.length s.c] w fun e w' => e = .returned (.bool true) ∧ Below w.heap.size w w' := by
  have HT := hid (fun W (hW : Below w.heap.size w W) => htb.belowS hW)
  have HS := hid (fun W (hW : Below w.heap.size w W) => hs.stays hW)
  have HP := hid (pair_swap s ⟨none, 0, []⟩ w hs (EsAt.empty _ _ _) htb)
  clear hs htb
  by_cases hc : chkC s.xs = 0
  case neg =>
    have HC := hid (fun W (hW : Below w.heap.size w W) => ccheck_any s W (HS.out W hW).entries)
    have he : (pairR s.xs []).2.2 = chkC s.xs := by
      have hd : (diffR s.xs []).2 = chkC s.xs := by rw [diffR, if_neg hc]
      rw [pairR, if_neg (by rw [hd]; exact hc), hd]
    have Hen := hid (show errV (pairR s.xs []).2.2 = .iface 87 (.int .i64 (chkC s.xs)) by rw [he]; exact errV_ne hc)
    rw [errV_ne hc] at HC
    generalize pairR s.xs [] = R at *
    generalize chkC s.xs = en at *
    clear hc he
    go_enter Tryd.func9, Tryd.ntmps9
    go_wp2_with fail
    refine HP.out.mono ?_
    rintro e w1 ⟨v, u, rfl, hv, hu, hb1⟩
    obtain ⟨x, rfl, hxx, hxA⟩ := hv
    obtain ⟨y, rfl, hyx, hyA⟩ := hu
    rw [Hen.out]
    have HC1 := hid (HC.out w1 hb1)
    have Hb1 := hid hb1
    clear hb1 hxx hxA hyx hyA
    go_wp2_with fail
    refine HC1.out.mono ?_
    rintro e w2 ⟨rfl, hb2⟩
    have Hb2 := hid (Below.step Hb1.out hb2 Hb1.out.size)
    clear hb2
    go_wp2_with fail
    go_ret
    exact ⟨rfl, Hb2.out⟩
  case pos =>
  have HL := hid (fun W (hW : Below w.heap.size w W) => slacks_any s ⟨none, 0, []⟩ W (HS.out W hW) (EsAt.empty _ _ _) (HT.out W hW))
  have HG := hid (fun (K : SlV Int) W (hW : Below w.heap.size w W) hK hok => give_any s K W (HS.out W hW) hK hok)
  have hgE := giveE_part (a := s.xs) (b := []) s.xs hc
  have hgL := giveL_part (a := s.xs) (b := []) s.xs hc
  have hln := some_part_len hc
  simp only [pair_nil hc] at HP
  rw [show diffR s.xs [] = (partT s.xs [] 1, 0) by rw [diffR, if_pos hc, if_pos nil_val]] at HL
  simp only at HL
  generalize (partT s.xs [] 1).1 = K at *
  have HgE := hid hgE
  have HgL := hid hgL
  have Hln := hid hln
  clear hgE hgL hln hc
  go_enter Tryd.func9, Tryd.ntmps9
  go_wp2_with fail
  refine HP.out.mono ?_
  rintro e w1 ⟨v, u, rfl, hv, hu, hb1⟩
  obtain ⟨x, rfl, hxx, hxA⟩ := hv
  obtain ⟨y, rfl, hyx, hyA⟩ := hu
  rw [errV_zero]
  have Hxx := hid hxx
  have HxA := hid (fun W (hW : Below w1.heap.size w1 W) => hxA.stays hW)
  have Hyx := hid hyx
  have HyA := hid (fun W (hW : Below w1.heap.size w1 W) => hyA.stays hW)
  have HL1 := hid (HL.out w1 hb1)
  have Hb1 := hid hb1
  clear hb1 hxx hxA hyx hyA
  go_wp2_with fail
  refine HL1.out.mono ?_
  rintro e w2 ⟨q, rfl, ⟨hqx, hqo⟩, hqA, hb2⟩
  rw [errV_zero]
  have Hqx := hid hqx
  have Hb12 := hid hb2
  have Hb2 := hid (Below.step Hb1.out hb2 Hb1.out.size)
  have HG1 := hid (HG.out q w2 Hb2.out hqA hqo)
  rw [show giveE s.xs q.xs = 0 by rw [Hqx.out, HgE.out], show giveL s.xs q.xs = someL s.xs K by rw [Hqx.out, HgL.out]] at HG1
  clear hb2 hqA hqo hqx
  go_wp2_with fail
  refine HG1.out.mono ?_
  rintro e w3 ⟨v, rfl, hv, hb3⟩
  obtain ⟨z, rfl, hzx, hzA⟩ := hv
  rw [errV_zero]
  have Hzx := hid hzx
  have HzA := hid (fun W (hW : Below w3.heap.size w3 W) => hzA.stays hW)
  have Hb13 := hid (Below.step Hb12.out hb3 Hb12.out.size)
  have Hb3 := hid (Below.step Hb2.out hb3 Hb2.out.size)
  have HE1 := hid (ecache_any x s w3 (HxA.out _ Hb13.out) (HS.out _ Hb3.out))
  rw [show eqsE x.xs s.xs = true by rw [Hxx.out, eqsE_refl]] at HE1
  have hlen : ((q.xs.length : Int) == (z.xs.length : Int)) = true := by rw [Hqx.out, Hzx.out, Hln.out]; simp
  clear hb3 hzx hzA
  go_wp2_with fail
  refine HE1.out.mono ?_
  rintro e w4 ⟨rfl, hb4⟩
  have Hb4 := hid (Below.step Hb3.out hb4 Hb3.out.size)
  have HE2 := hid (ecache_any y z w4 (HyA.out _ (Below.step Hb13.out hb4 Hb13.out.size)) (HzA.out _ hb4))
  rw [show eqsE y.xs z.xs = true by rw [Hyx.out, Hzx.out, eqsE_refl]] at HE2
  clear hb4
  go_wp2_with fail
  refine HE2.out.mono ?_
  rintro e w5 ⟨rfl, hb5⟩
  have Hb5 := hid (Below.step Hb4.out hb5 Hb4.out.size)
  clear hb5
  go_wp2_with fail
  go_ret
  exact ⟨by simp, Hb5.out⟩

set_option maxRecDepth 100000 in
theorem swapNone_walk : LawWalk Tryd.prog 9 Tryd.f9 Tb := by
  intro W base args H enc ds p hval hA hgl
  rw [Tryd.params9] at hA hval
  obtain ⟨v0, d0, rfl, rfl, h0⟩ := trodAll_one hA
  obtain ⟨s, rfl, hs⟩ := arg_slice Tryd.underlying22 codecEntry (pos_of_eq Tryd.cellsEntry (by decide)) (hval 0 22 v0 rfl rfl) h0
  exact swapNone_any s W (entriesAt_of hs).es hgl

set_option maxRecDepth 100000 in
theorem swapNone_lifted (os : Os) (started : os.Started) (H : Type) (enc : TypeId × Value → H) :
    ReturnsInHanded {} Tryd.checked os 9 .any (fun w args => (Rows.swapNoneSpec.pre enc Tryd.checked.prog Tryd.f9 [] false w args ∧ laidMetH Tryd.prog laid3 w) ∧ sizedMet enc Tryd.checked.prog Tryd.f9 (OpenSpec.ofChange Rows.swapNoneSpec) false w args) (Rows.swapNoneSpec.post enc Tryd.checked.prog Tryd.f9 false true false false) :=
  laid_lifted (C := Tryd.checked) laid3 (fun _ h => tb_of_laid3 h) [] Tryd.own started (by kernel_rfl) Tryd.func9 Tryd.laidOut (by kernel_rfl) rfl Tryd.underlying4 rfl (fun ds h => by match ds, h with | [_], _ => rfl)
    (ChangeSpec.witness_shaped (enc := enc) (C := Tryd.checked) (os := os) (X := fun w _ => laidMetH Tryd.prog laid3 w) false (World.doorLaid Tryd.prog 4000 os) #[.slice none 0 0] 8 rfl (World.shaped_of_RefB (by kernel_rfl) (by kernel_rfl)) (by kernel_rfl) (by kernel_rfl) (by kernel_rfl) (door_met3 os _)) swapNone_walk

theorem swapNone_row : Rows.SwapNoneSaid :=
  OpenClaim.holds_of_wide 9 Tryd.f9 rfl rfl rfl rfl rfl rfl rfl ⟨rfl, rfl, rfl, rfl, rfl⟩ rfl rfl rfl rfl rfl (by kernel_rfl) Tryd.func9 (by kernel_rfl)
    (of_decide_eq_true (by kernel_rfl)) (by unfold Func.isWrapper; rw [if_neg (of_decide_eq_false (by kernel_rfl))]; exact ⟨rfl, rfl⟩)
    (fun os started H enc _ => swapNone_lifted os started H enc)

theorem swapNone_holds : Rows.SwapNoneCardSaid :=
  Claim7.holds_tied_plain_at .later [] [.data, .data, .data] true _ true
    swapNone_row (fun _ h => by cases h) (by kernel_rfl) (fun _ h => by cases h) swapNone_row_tie rfl ⟨rfl, rfl⟩ (by kernel_rfl) rfl
    (fun f fn hf hfn => by
      obtain rfl : f = 9 := Option.some.inj ((show Tryd.prog.funcNamed "beaconmere/merelaw4.SwapNone" = some 9 by kernel_rfl).symm.trans hf) |>.symm
      obtain rfl : fn = Tryd.f9 := (Option.some.inj (Tryd.func9.symm.trans hfn)).symm
      refine ⟨by kernel_rfl, fun j t ht => ?_⟩
      have hall : Tryd.f9.params.toList.all (fun t => !Tryd.prog.wantsStandIn t) = true := by kernel_rfl
      have hm : t ∈ Tryd.f9.params.toList := by
        obtain ⟨hj, hje⟩ := Array.getElem?_eq_some_iff.1 ht
        rw [← hje]
        exact Array.mem_toList_iff.2 (Array.getElem_mem hj)
      have := List.all_eq_true.1 hall t hm
      exact (show Tryd.prog.wantsStandIn t = false by simpa using this))
    (by kernel_rfl)

end Go.Proofs.YthjbebngedajiaaDoor
