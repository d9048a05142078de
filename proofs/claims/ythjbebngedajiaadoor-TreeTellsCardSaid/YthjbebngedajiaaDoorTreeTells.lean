/-
  PROVED HERE: merelaw1.TreeTells returns true: any node of any cache's tree, and where any two part, are as the document says. CONDITIONS: the library's tables and errors.errorType as the program's text lays them (tied by the card).
-/
import Derived.Test.YthjbebngedajiaaDoorRTree
import Derived.Test.YthjbebngedajiaaDoorTree3
import Derived.Test.YthjbebngedajiaaDoorInts
import Derived.Test.YthjbebngedajiaaDoorREntry
import Derived.ChangeVars
import Derived.JoinedOf
import Derived.Stop.Joined
namespace Go.Proofs.YthjbebngedajiaaDoor
open Go.RowKit
open Go.ChangeShapes Go.WideShapes Go.ChangeAt

/-- A row of numbers that stands in a slot. -/
def RowI (w : World) (v : Value) (l : List Int) : Prop := ∃ q : SlV Int, v = .slice q.A q.xs.length q.c ∧ q.xs = l ∧ IntsAt w q
theorem RowI.nil (w : World) : RowI w (.slice none 0 0) [] := ⟨⟨none, 0, []⟩, rfl, rfl, IntsAt.bare _ _ _⟩

set_option maxHeartbeats 8000000 in
set_option maxRecDepth 100000 in
theorem treeTells_any (s m : SlV E) (i : Int) (w : World) (hs : EsAt w s) (hm : EsAt w m) (htb : Tb w) (hgl : Gl w) :
    Calls Tryd.prog 7 #[.slice s.A s.xs.length s.c, .slice m.A m.xs.length m.c, .int .i64 i] w fun e w' => e = .returned (.bool true) ∧ Below w.heap.size w w' := by
  have HT := hid (fun W (hW : Below w.heap.size w W) => htb.belowS hW)
  have HG := hid (fun W (hW : Below w.heap.size w W) => hgl.belowS hW)
  have HS := hid (fun W (hW : Below w.heap.size w W) => hs.stays hW)
  have HM := hid (fun W (hW : Below w.heap.size w W) => hm.stays hW)
  clear htb hgl hs hm
  obtain ⟨bb, hbb⟩ : ∃ bb, bb = !decide (1 ≤ i ∧ i < 16) := ⟨_, rfl⟩
  have Hbb := hid hbb
  clear hbb
  go_enter Tryd.func7, Tryd.ntmps7
  go_upto_region 2 with fail
  go_cut [22] (fun t wx => t = .bool bb ∧ wx = w)
  case first =>
    rcases (show i < 1 ∨ (¬ i < 1 ∧ 15 < i) ∨ (¬ i < 1 ∧ ¬ 15 < i) by omega) with h | ⟨h, h'⟩ | ⟨h, h'⟩
    all_goals
      first | (have hq : bb = true := by rw [Hbb.out]; simp; omega) | (have hq : bb = false := by rw [Hbb.out]; simp; omega)
      have Hq := hid hq
      clear hq
      go_wp2_with fail
      go_meet
      exact ⟨by rw [Hq.out], rfl⟩
  case rest =>
  obtain ⟨rfl, hwc⟩ := hcut
  obtain rfl : w = wc := hwc.symm
  go_upto_if 22 with fail
  go_cut [7] (fun t wx => t = .int .i64 (tnE s.xs i) ∧ Below w.heap.size w wx)
  case first =>
    by_cases hr : 1 ≤ i ∧ i < 16
    · have hq : bb = false := by rw [Hbb.out]; simp; omega
      subst hq
      have HF := hid (show tnE s.xs i = chkC s.xs from if_pos hr)
      have HC := hid (rcache_any s w (HS.out w (Below.refl _ _)).entries)
      clear hr
      go_wp2_with fail
      refine HC.out.mono ?_
      rintro e w1 ⟨rfl, hb1⟩
      go_wp2_with fail
      go_meet
      exact ⟨by rw [HF.out], hb1⟩
    · have hq : bb = true := by rw [Hbb.out]; simp; omega
      subst hq
      have HF := hid (show tnE s.xs i = 1 from if_neg hr)
      clear hr
      go_wp2_with fail
      go_meet
      exact ⟨by rw [HF.out], Below.refl _ _⟩
  case rest =>
  obtain ⟨rfl, hb1⟩ := hcut
  obtain ⟨w1, rfl⟩ : ∃ w1 : World, w1 = wc := ⟨_, rfl⟩
  have Hb1 := hid hb1
  clear hb1 Hbb
  go_upto_if 26 with fail
  go_cut [8] (fun t wx => t = .int .i64 (tnN s.xs i) ∧ Below w1.heap.size w1 wx)
  case first =>
    by_cases h0 : tnE s.xs i = 0
    · have hcb : (tnE s.xs i == 0) = true := by rw [h0]; rfl
      obtain ⟨hr, hc⟩ : (1 ≤ i ∧ i < 16) ∧ chkC s.xs = 0 := by
        unfold tnE at h0
        split at h0
        · exact ⟨by assumption, h0⟩
        · cases h0
      have HF := hid (show tnN s.xs i = (nodeN s.xs i.toNat : Int) by rw [tnN, if_pos hr, if_pos hc])
      obtain ⟨n, rfl⟩ := Int.eq_ofNat_of_zero_le (show 0 ≤ i by omega)
      have HN := hid (rnode_any s hc 16 n (by omega) (by omega) (by omega) w1 (HS.out w1 Hb1.out))
      clear h0 hr hc
      go_wp2_with fail
      refine HN.out.mono ?_
      rintro e w2 ⟨rfl, hb2⟩
      go_wp2_with fail
      go_meet
      exact ⟨by rw [HF.out, Int.toNat_natCast], hb2⟩
    · have hcb : (tnE s.xs i == 0) = false := by rw [beq_eq_false_iff_ne]; exact h0
      have HF := hid (show tnN s.xs i = 0 by
        unfold tnE at h0
        unfold tnN
        split
        · rename_i hr
          rw [if_pos hr] at h0
          rw [if_neg h0]
        · rfl)
      clear h0
      go_wp2_with fail
      go_meet
      exact ⟨by rw [HF.out], Below.refl _ _⟩
  case rest =>
  obtain ⟨rfl, hb2⟩ := hcut
  obtain ⟨w2, rfl⟩ : ∃ w2 : World, w2 = wc := ⟨_, rfl⟩
  have Hb2 := hid (Below.step Hb1.out hb2 Hb1.out.size)
  clear hb2
  have HNd := hid (node_any s i w2 (HS.out w2 Hb2.out) (HT.out w2 Hb2.out))
  generalize tnE s.xs i = en at *
  generalize tnN s.xs i = nn at *
  go_wp2_with fail
  refine HNd.out.mono ?_
  rintro e w3 ⟨rfl, hb3⟩
  have Hb3 := hid (Below.step Hb2.out hb3 Hb2.out.size)
  clear hb3
  go_wp2_with fail
  refine (error_any _ _ w3 (HG.out _ Hb3.out)).mono ?_
  rw [beq_self_eq_true]
  rintro e w4 ⟨rfl, hb4⟩
  have Hb4 := hid (Below.step Hb3.out hb4 Hb3.out.size)
  have HTw := hid (rtwo_any s m w4 (HS.out w4 Hb4.out) (HM.out w4 Hb4.out))
  clear hb4
  go_wp2_with fail
  refine HTw.out.mono ?_
  rintro e w5 ⟨rfl, hb5⟩
  have Hb5 := hid (Below.step Hb4.out hb5 Hb4.out.size)
  clear hb5
  go_upto_if 48 with fail
  go_cut [12, 13] (fun t u wx => RowI wx t (diffR s.xs m.xs).1.1 ∧ u = .int .i64 (diffR s.xs m.xs).1.2 ∧ Below w5.heap.size w5 wx)
  case first =>
    by_cases h0 : twoC s.xs m.xs = 0
    · have hcb : (twoC s.xs m.xs == 0) = true := by rw [h0]; rfl
      obtain ⟨h1, h2⟩ := twoC_zero h0
      have HF := hid (show diffR s.xs m.xs = (partT s.xs m.xs 1, 0) by rw [diffR, if_pos h1, if_pos h2])
      have HP := hid (rpart_any s m h1 h2 16 1 (by omega) (by omega) (by omega) w5 (HS.out w5 Hb5.out) (HM.out w5 Hb5.out))
      clear h0 h1 h2
      go_wp2_with fail
      refine HP.out.mono ?_
      rintro e w6 ⟨q, rfl, hqx, hqA, hb6⟩
      have Hqx := hid hqx
      have HqA := hid hqA
      clear hqx hqA
      go_wp2_with fail
      go_meet
      rw [HF.out]
      exact ⟨⟨q, rfl, Hqx.out, HqA.out⟩, rfl, hb6⟩
    · have hcb : (twoC s.xs m.xs == 0) = false := by rw [beq_eq_false_iff_ne]; exact h0
      have HF := hid (show (diffR s.xs m.xs).1 = ([], 0) by
        unfold twoC at h0
        unfold diffR
        split
        · rename_i h1
          rw [if_pos h1] at h0
          rw [if_neg h0]
        · rfl)
      clear h0
      go_wp2_with fail
      go_meet
      rw [HF.out]
      exact ⟨RowI.nil _, rfl, Below.refl _ _⟩
  case rest =>
  obtain ⟨⟨q, rfl, hqx, hqA⟩, rfl, hb6⟩ := hcut
  obtain ⟨w6, rfl⟩ : ∃ w6 : World, w6 = wc := ⟨_, rfl⟩
  have Hqx := hid hqx
  have HqA := hid hqA
  have Hb6 := hid (Below.step Hb5.out hb6 Hb5.out.size)
  have HE2 : (diffR s.xs m.xs).2 = twoC s.xs m.xs := by
    unfold diffR twoC
    split
    · split
      · rename_i h; exact h.symm
      · rfl
    · rfl
  have HD := hid (diff_any s m w6 (HS.out w6 Hb6.out) (HM.out w6 Hb6.out) (HT.out w6 Hb6.out))
  rw [HE2] at HD
  clear hqx hqA hb6 HE2
  generalize (diffR s.xs m.xs).1.1 = K at *
  generalize (diffR s.xs m.xs).1.2 = N at *
  generalize twoC s.xs m.xs = e2 at *
  go_wp2_with fail
  refine HD.out.mono ?_
  rintro e w7 ⟨r, rfl, hrx, hrA, hb7⟩
  have Hrx := hid hrx
  have HrA := hid hrA
  have HqA7 := hid (HqA.out.stays0 hb7)
  have Hb7 := hid (Below.step Hb6.out hb7 Hb6.out.size)
  clear hrx hrA hb7
  go_wp2_with fail
  refine (error_any _ _ w7 (HG.out _ Hb7.out)).mono ?_
  rw [beq_self_eq_true]
  rintro e w8 ⟨rfl, hb8⟩
  have Hb8 := hid (Below.step Hb7.out hb8 Hb7.out.size)
  have HI := hid (ints_any r q w8 (HrA.out.stays0 hb8) (HqA7.out.stays0 hb8))
  rw [Hrx.out, Hqx.out, sameI_self] at HI
  clear hb8
  rw [Hrx.out, Hqx.out]
  go_wp2_with fail
  refine HI.out.mono ?_
  rintro e w9 ⟨rfl, hb9⟩
  have Hb9 := hid (Below.step Hb8.out hb9 Hb8.out.size)
  clear hb9
  go_wp2_with fail
  go_ret
  exact ⟨rfl, Hb9.out⟩

set_option maxRecDepth 100000 in
theorem treeTells_walk : LawWalk Tryd.prog 7 Tryd.f7 (fun W => Tb W ∧ Gl W) := by
  intro W base args H enc ds p hval hA hgl
  rw [Tryd.params7] at hA hval
  obtain ⟨v0, v1, v2, d0, d1, d2, p0, p1, p2, rfl, rfl, rfl, h0, h1, h2⟩ := trodAll_three hA
  obtain ⟨s, rfl, hs⟩ := arg_slice Tryd.underlying22 codecEntry (pos_of_eq Tryd.cellsEntry (by decide)) (hval 0 22 v0 rfl rfl) h0
  obtain ⟨m, rfl, hm⟩ := arg_slice Tryd.underlying22 codecEntry (pos_of_eq Tryd.cellsEntry (by decide)) (hval 1 22 v1 rfl rfl) h1
  obtain ⟨i, rfl, _⟩ := arg_int Tryd.underlying3 (hval 2 3 v2 rfl rfl) h2
  exact treeTells_any s m i W (entriesAt_of hs).es (entriesAt_of hm).es hgl.1 hgl.2

set_option maxRecDepth 100000 in
theorem treeTells_lifted (os : Os) (started : os.Started) (H : Type) (enc : TypeId × Value → H) :
    ReturnsInHanded {} Tryd.checked os 7 .any (fun w args => (Rows.treeTellsSpec.pre enc Tryd.checked.prog Tryd.f7 [] false w args ∧ laidMetH Tryd.prog laid4 w) ∧ sizedMet enc Tryd.checked.prog Tryd.f7 (OpenSpec.ofChange Rows.treeTellsSpec) false w args) (Rows.treeTellsSpec.post enc Tryd.checked.prog Tryd.f7 false true false false) :=
  laid_lifted (C := Tryd.checked) laid4 (fun _ h => tb_of_laid4 h) [] Tryd.own started (by kernel_rfl) Tryd.func7 Tryd.laidOut (by kernel_rfl) rfl Tryd.underlying4 rfl (fun ds h => by match ds, h with | [_, _, _], _ => rfl)
    (ChangeSpec.witness_shaped (enc := enc) (C := Tryd.checked) (os := os) (X := fun w _ => laidMetH Tryd.prog laid4 w) false (World.doorLaid Tryd.prog 4000 os) #[.slice none 0 0, .slice none 0 0, .int .i64 0] 8 rfl (World.shaped_of_RefB (by kernel_rfl) (by kernel_rfl)) (by kernel_rfl) (by kernel_rfl) (by kernel_rfl) (door_met4 os _)) treeTells_walk

theorem treeTells_row : Rows.TreeTellsSaid :=
  OpenClaim.holds_of_wide 7 Tryd.f7 rfl rfl rfl rfl rfl rfl rfl ⟨rfl, rfl, rfl, rfl, rfl⟩ rfl rfl rfl rfl rfl (by kernel_rfl) Tryd.func7 (by kernel_rfl)
    (of_decide_eq_true (by kernel_rfl)) (by unfold Func.isWrapper; rw [if_neg (of_decide_eq_false (by kernel_rfl))]; exact ⟨rfl, rfl⟩)
    (fun os started H enc _ => treeTells_lifted os started H enc)

theorem treeTells_holds : Rows.TreeTellsCardSaid :=
  Claim7.holds_tied_plain_at .later [] [.data, .data, .data, .handle] true _ true
    treeTells_row (fun _ h => by cases h) (by kernel_rfl) (fun _ h => by cases h) treeTells_row_tie rfl ⟨rfl, rfl⟩ (by kernel_rfl) rfl
    (fun f fn hf hfn => by
      obtain rfl : f = 7 := Option.some.inj ((show Tryd.prog.funcNamed "beaconmere/merelaw1.TreeTells" = some 7 by kernel_rfl).symm.trans hf) |>.symm
      obtain rfl : fn = Tryd.f7 := (Option.some.inj (Tryd.func7.symm.trans hfn)).symm
      refine ⟨by kernel_rfl, fun j t ht => ?_⟩
      have hall : Tryd.f7.params.toList.all (fun t => !Tryd.prog.wantsStandIn t) = true := by kernel_rfl
      have hm : t ∈ Tryd.f7.params.toList := by
        obtain ⟨hj, hje⟩ := Array.getElem?_eq_some_iff.1 ht
        rw [← hje]
        exact Array.mem_toList_iff.2 (Array.getElem_mem hj)
      have := List.all_eq_true.1 hall t hm
      exact (show Tryd.prog.wantsStandIn t = false by simpa using this))
    (by kernel_rfl)

end Go.Proofs.YthjbebngedajiaaDoor
