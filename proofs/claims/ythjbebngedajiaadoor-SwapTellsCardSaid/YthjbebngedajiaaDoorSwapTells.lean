/-
  PROVED HERE: merelaw2.SwapTells returns true: what any two caches lack, what any gives, and both when each gave, are as the document says. CONDITIONS: the library's tables and errors.errorType as the program's text lays them (tied by the card).
-/
import Derived.Test.YthjbebngedajiaaDoorRSwap
import Derived.Test.YthjbebngedajiaaDoorGive
import Derived.Test.YthjbebngedajiaaDoorInts
import Derived.Test.YthjbebngedajiaaDoorREntry
import Derived.Deep.DeepCutAuto
import Derived.Deep.CutBlock
import Derived.BigQuiet
import Derived.Deep.QuietTactic
import Derived.ChangeVars
import Derived.JoinedOf
import Derived.Stop.Joined
namespace Go.Proofs.YthjbebngedajiaaDoor
open Go.RowKit
open Go.ChangeShapes Go.WideShapes Go.ChangeAt

def RowN (w : World) (v : Value) (l : List Int) : Prop := ∃ q : SlV Int, v = .slice q.A q.xs.length q.c ∧ q.xs = l ∧ IntsAt w q
theorem RowN.nil (w : World) : RowN w (.slice none 0 0) [] := ⟨⟨none, 0, []⟩, rfl, rfl, IntsAt.bare _ _ _⟩
theorem diff_two (a b : List E) : (diffR a b).2 = twoC a b := by
  unfold diffR twoC
  split
  · split
    · rename_i h; exact h.symm
    · rfl
  · rfl
/-- The fault ahead of the keys. -/
def preE (l : List E) (n : Nat) : Int := if chkC l = 0 then (if 8 < n then 4 else 0) else chkC l
def GivF (K : List Int) (R en : Int) (j : Nat) : Prop := (en = 0 ∧ giveK (K.take j) (K.drop j) = R) ∨ ((en == 0) = false ∧ en = R)
theorem givF_start (l : List E) (K : List Int) : GivF K (giveE l K) (preE l K.length) 0 := by
  unfold GivF giveE preE
  by_cases hc : chkC l = 0
  · rw [if_pos hc, if_pos hc]
    by_cases h8 : 8 < K.length
    · rw [if_pos h8, if_pos h8]; exact .inr ⟨rfl, rfl⟩
    · rw [if_neg h8, if_neg h8]; exact .inl ⟨rfl, rfl⟩
  · rw [if_neg hc, if_neg hc]; exact .inr ⟨by rw [beq_eq_false_iff_ne]; exact hc, rfl⟩

set_option maxHeartbeats 16000000 in
set_option maxRecDepth 100000 in
theorem swapTells_any (s m : SlV E) (K : SlV Int) (w : World) (hs : EsAt w s) (hm : EsAt w m) (hK : IntsAt w K) (hok : K.ok) (htb : Tb w) (hgl : Gl w) :
    Calls Tryd.prog 11 #[.slice s.A s.xs.length s.c, .slice m.A m.xs.length m.c, .slice K.A K.xs.length K.c] w fun e w' => e = .returned (.bool true) ∧ Below w.heap.size w w' := by
  have HT := hid (fun W (hW : Below w.heap.size w W) => htb.belowS hW)
  have HG := hid (fun W (hW : Below w.heap.size w W) => hgl.belowS hW)
  have HS := hid (fun W (hW : Below w.heap.size w W) => hs.stays hW)
  have HM := hid (fun W (hW : Below w.heap.size w W) => hm.stays hW)
  have HK := hid (fun W (hW : Below w.heap.size w W) => hK.stays0 hW)
  have HTw := hid (rtwo_any s m w hs hm)
  have hkl := hK.len
  have Hok := hid hok
  obtain ⟨hkc, hkm⟩ := hok
  unfold maxLen at hkl hkm
  clear htb hgl hs hm hK
  go_enter Tryd.func11, Tryd.ntmps11
  go_wp2_with fail
  refine HTw.out.mono ?_
  rintro e w1 ⟨rfl, hb1⟩
  have Hb1 := hid hb1
  clear hb1 HTw
  go_upto_if 26 with fail
  go_cut [8] (fun t wx => RowN wx t (diffR s.xs m.xs).1.1 ∧ Below w1.heap.size w1 wx)
  case first =>
    as_aux_lemma =>
    by_cases h0 : twoC s.xs m.xs = 0
    · have hcb : (twoC s.xs m.xs == 0) = true := by rw [h0]; rfl
      obtain ⟨h1, h2⟩ := twoC_zero h0
      have HF := hid (show diffR s.xs m.xs = (partT s.xs m.xs 1, 0) by rw [diffR, if_pos h1, if_pos h2])
      have HP := hid (rpart_any s m h1 h2 16 1 (by omega) (by omega) (by omega) w1 (HS.out w1 Hb1.out) (HM.out w1 Hb1.out))
      clear h0 h1 h2
      go_wp2_with fail
      refine HP.out.mono ?_
      rintro e w6 ⟨q, rfl, hqx, hqA, hb6⟩
      have Hqx := hid hqx
      have HqA := hid hqA
      clear hqx hqA
      go_wp2_with fail
      go_meet
      rw [HF.out]
      exact ⟨⟨q, rfl, Hqx.out, HqA.out⟩, hb6⟩
    · have hcb : (twoC s.xs m.xs == 0) = false := by rw [beq_eq_false_iff_ne]; exact h0
      have HF := hid (show (diffR s.xs m.xs).1 = ([], 0) by
        unfold twoC at h0
        unfold diffR
        split
        · rename_i h1
          rw [if_pos h1] at h0
          rw [if_neg h0]
        · rfl)
      clear h0
      go_wp2_with fail
      go_meet
      rw [HF.out]
      exact ⟨RowN.nil _, Below.refl _ _⟩
  case rest =>
  obtain ⟨⟨q, rfl, hqx, hqA⟩, hb2⟩ := hcut
  obtain ⟨w2, rfl⟩ : ∃ w2 : World, w2 = wc := ⟨_, rfl⟩
  have Hqx := hid hqx
  have HqA := hid hqA
  have Hb2 := hid (Below.step Hb1.out hb2 Hb1.out.size)
  have HD := hid (slacks_any s m w2 (HS.out w2 Hb2.out) (HM.out w2 Hb2.out) (HT.out w2 Hb2.out))
  rw [diff_two] at HD
  clear hqx hqA hb2
  go_wp2_with fail
  refine HD.out.mono ?_
  rintro e w3 ⟨r, rfl, ⟨hrx, _⟩, hrA, hb3⟩
  have Hrx := hid hrx
  have HrA := hid hrA
  have HqA3 := hid (HqA.out.stays0 hb3)
  have Hb3 := hid (Below.step Hb2.out hb3 Hb2.out.size)
  clear hrx hrA hb3 HD
  go_wp2_with fail
  refine (error_any _ _ w3 (HG.out _ Hb3.out)).mono ?_
  rw [beq_self_eq_true]
  rintro e w4 ⟨rfl, hb4⟩
  have Hb4 := hid (Below.step Hb3.out hb4 Hb3.out.size)
  have HI := hid (ints_any r q w4 (HrA.out.stays0 hb4) (HqA3.out.stays0 hb4))
  rw [show sameI r.xs q.xs = true by rw [Hrx.out, Hqx.out, sameI_self]] at HI
  clear hb4
  go_wp2_with fail
  refine HI.out.mono ?_
  rintro e w5 ⟨rfl, hb5⟩
  have Hb5 := hid (Below.step Hb4.out hb5 Hb4.out.size)
  clear hb5 HI Hrx Hqx HrA HqA HqA3
  go_upto_if 48 with fail
  go_cut [12, 13, 7] (fun t u e wx => RowV wx t (pairR s.xs m.xs).1 ∧ RowV wx u (pairR s.xs m.xs).2.1 ∧ e = .int .i64 (pairR s.xs m.xs).2.2 ∧ Below w5.heap.size w5 wx)
  case first =>
    as_aux_lemma =>
    by_cases h0 : twoC s.xs m.xs = 0
    · have hcb : (twoC s.xs m.xs == 0) = true := by rw [h0]; rfl
      obtain ⟨h1, h2⟩ := twoC_zero h0
      have HP := hid (rswap_any s m w5 (HS.out w5 Hb5.out) (HM.out w5 Hb5.out) h1 h2)
      clear h0 h1 h2
      go_wp2_with fail
      refine HP.out.mono ?_
      rintro e w6 ⟨v, u, rfl, hv, hu, hb6⟩
      obtain ⟨x, rfl, hxx, hxA⟩ := hv
      obtain ⟨y, rfl, hyx, hyA⟩ := hu
      have Hxx := hid hxx
      have HxA := hid hxA
      have Hyx := hid hyx
      have HyA := hid hyA
      clear hxx hxA hyx hyA
      go_wp2_with fail
      go_meet
      exact ⟨⟨x, rfl, Hxx.out, HxA.out⟩, ⟨y, rfl, Hyx.out, HyA.out⟩, rfl, hb6⟩
    · have hcb : (twoC s.xs m.xs == 0) = false := by rw [beq_eq_false_iff_ne]; exact h0
      have HF := hid (show pairR s.xs m.xs = ([], [], twoC s.xs m.xs) by rw [pairR, diff_two, if_neg h0])
      clear h0
      go_wp2_with fail
      go_meet
      rw [HF.out]
      exact ⟨RowV.nil _, RowV.nil _, rfl, Below.refl _ _⟩
  case rest =>
  obtain ⟨⟨x, rfl, hxx, hxA⟩, ⟨y, rfl, hyx, hyA⟩, rfl, hb6⟩ := hcut
  obtain ⟨w6, rfl⟩ : ∃ w6 : World, w6 = wc := ⟨_, rfl⟩
  have Hxx := hid hxx
  have HxA := hid (fun W (hW : Below w6.heap.size w6 W) => hxA.stays hW)
  have Hyx := hid hyx
  have HyA := hid (fun W (hW : Below w6.heap.size w6 W) => hyA.stays hW)
  have Hb6 := hid (Below.step Hb5.out hb6 Hb5.out.size)
  have HP := hid (pair_swap s m w6 (HS.out w6 Hb6.out) (HM.out w6 Hb6.out) (HT.out w6 Hb6.out))
  clear hxx hxA hyx hyA hb6
  generalize pairR s.xs m.xs = PR at *
  obtain ⟨PX, PY, pe⟩ := PR
  simp only at Hxx Hyx
  go_wp2_with fail
  refine HP.out.mono ?_
  rintro e w7 ⟨v, u, rfl, hv, hu, hb7⟩
  obtain ⟨p, rfl, hpx, hpA⟩ := hv
  obtain ⟨z, rfl, hzx, hzA⟩ := hu
  have Hpx := hid hpx
  have HpA := hid (fun W (hW : Below w7.heap.size w7 W) => hpA.stays hW)
  have Hzx := hid hzx
  have HzA := hid (fun W (hW : Below w7.heap.size w7 W) => hzA.stays hW)
  have Hb67 := hid hb7
  have Hb7 := hid (Below.step Hb6.out hb7 Hb6.out.size)
  clear hb7 hpx hpA hzx hzA HP
  go_wp2_with fail
  refine (error_any _ _ w7 (HG.out _ Hb7.out)).mono ?_
  rw [beq_self_eq_true]
  rintro e w8 ⟨rfl, hb8⟩
  have Hb78 := hid hb8
  have Hb8 := hid (Below.step Hb7.out hb8 Hb7.out.size)
  have HE1 := hid (ecache_any p x w8 (HpA.out _ hb8) (HxA.out _ (Below.step Hb67.out hb8 Hb67.out.size)))
  rw [show eqsE p.xs x.xs = true by rw [Hpx.out, Hxx.out, eqsE_refl]] at HE1
  clear hb8
  go_wp2_with fail
  refine HE1.out.mono ?_
  rintro e w9 ⟨rfl, hb9⟩
  have Hb79 := hid (Below.step Hb78.out hb9 Hb78.out.size)
  have Hb9 := hid (Below.step Hb8.out hb9 Hb8.out.size)
  have HE2 := hid (ecache_any z y w9 (HzA.out _ Hb79.out) (HyA.out _ (Below.step Hb67.out Hb79.out Hb67.out.size)))
  rw [show eqsE z.xs y.xs = true by rw [Hzx.out, Hyx.out, eqsE_refl]] at HE2
  clear hb9 HE1
  go_wp2_with fail
  refine HE2.out.mono ?_
  rintro e wA ⟨rfl, hbA⟩
  have HbA := hid (Below.step Hb9.out hbA Hb9.out.size)
  have HC := hid (rcache_any s wA (HS.out _ HbA.out).entries)
  clear hbA HE2 Hxx HxA Hyx HyA Hpx HpA Hzx HzA
  go_wp2_with fail
  refine HC.out.mono ?_
  rintro e wB ⟨rfl, hbB⟩
  have HbB := hid (Below.step HbA.out hbB HbA.out.size)
  clear hbB HC
  obtain ⟨bb, hbb⟩ : ∃ bb, bb = ((chkC s.xs == 0) && decide (8 < (K.xs.length : Int))) := ⟨_, rfl⟩
  have Hbb := hid hbb
  clear hbb
  go_upto_region 13 with fail
  go_cut [84] (fun t wx => t = .bool bb ∧ wx = wB)
  case first =>
    rcases hcb : (chkC s.xs == 0) with _ | _
    all_goals
      have hb2 := Hbb.out
      rw [hcb] at hb2
      rcases hcd : decide ((8 : Int) < (K.xs.length : Int)) with _ | _
      all_goals
        rw [hcd] at hb2
        have Hb2' := hid hb2
        clear hb2
        go_wp2_with fail
        go_meet
        exact ⟨by rw [Hb2'.out]; rfl, rfl⟩
  case rest =>
  obtain ⟨rfl, hwc⟩ := hcut
  obtain rfl : wB = wc := hwc.symm
  go_upto_if 84 with fail
  go_cut [7] (fun e wx => e = .int .i64 (preE s.xs K.xs.length) ∧ wx = wB)
  case first =>
    by_cases hc : chkC s.xs = 0
    · by_cases h8 : 8 < K.xs.length
      · have hq : bb = true := by rw [Hbb.out, hc]; simp; omega
        have HF := hid (show preE s.xs K.xs.length = 4 by rw [preE, if_pos hc, if_pos h8])
        subst hq
        clear hc h8
        go_wp2_with fail
        go_meet
        exact ⟨by rw [HF.out], rfl⟩
      · have hq : bb = false := by rw [Hbb.out, hc]; simp; omega
        have HF := hid (show preE s.xs K.xs.length = 0 by rw [preE, if_pos hc, if_neg h8])
        have HC := hid hc
        subst hq
        clear hc h8
        go_wp2_with fail
        go_meet
        exact ⟨by rw [HF.out, HC.out], rfl⟩
    · have hq : bb = false := by rw [Hbb.out, beq_eq_false_iff_ne.2 hc]; rfl
      have HF := hid (show preE s.xs K.xs.length = chkC s.xs by rw [preE, if_neg hc])
      subst hq
      clear hc
      go_wp2_with fail
      go_meet
      exact ⟨by rw [HF.out], rfl⟩
  case rest =>
  obtain ⟨rfl, hwc⟩ := hcut
  obtain rfl : wB = wc := hwc.symm
  have HSt := hid (givF_start s.xs K.xs)
  clear Hbb
  go_upto_block 0 with fail
  go_cut [7] (fun e wx => e = .int .i64 (giveE s.xs K.xs) ∧ Below wB.heap.size wB wx)
  case first =>
    as_aux_lemma =>
    have HSt0 := HSt.out
    generalize giveE s.xs K.xs = R at *
    generalize preE s.xs K.xs.length = e0 at *
    have HSt1 := hid HSt0
    clear HSt0 HSt
    go_wp2_with fail
    go_loopw [7, 17] (fun e i wr => ∃ (j : Nat) (en : Int), j ≤ K.xs.length ∧ e = .int .i64 en ∧ i = .int .i64 j ∧ GivF K.xs R en j ∧ Below wB.heap.size wB wr) (fun _ i _ => K.xs.length - (intOf i).toNat)
    case atStart => exact ⟨0, e0, Nat.zero_le _, rfl, rfl, HSt1.out, Below.refl _ _⟩
    case round =>
      obtain ⟨j, en, hj, rfl, rfl, hF, hbr⟩ := hrel
      have Hbr := hid (Below.step HbB.out hbr HbB.out.size)
      have Hb := hid hbr
      unfold GivF at hF
      rcases hF with ⟨rfl, hF⟩ | ⟨hne, rfl⟩
      · by_cases hlt : j < K.xs.length
        · have hKA := HK.out wr Hbr.out
          obtain ⟨b, off, hA, hbl, hcs⟩ := hKA.row (by omega)
          have hcell := hcs j hlt
          have htk := take_snocD 0 hlt
          have hd := drop_consD 0 hlt
          have hpre := hKA.pre j hj
          have hlp : (K.xs.take j).length = j := by rw [List.length_take]; omega
          have HIn := hid (fun n => (in_any ⟨K.A, K.c, K.xs.take j⟩ (K.xs.getD j 0) (wr.drewN n) (hpre.drewN n)).mono (fun e w' ⟨h1, h2⟩ => (show e = _ ∧ w' = wr.drewN n from ⟨h1, h2.symm⟩)))
          simp only at HIn
          rw [hlp, hA] at HIn
          rw [hd, giveK] at hF
          generalize K.xs.getD j 0 = k at *
          have HA := hid hA
          rw [hA]
          have HFk := hid hF
          have Htk := hid htk
          clear hA hcs hKA hpre hd hlp hF htk hbr
          rcases hk : keyB k with _ | _
          · have HKr := hid (show (1 : Int) = R by rw [← HFk.out, if_neg (by rw [hk]; decide)])
            have HRk := hid (fun W => rkey_any k W)
            rw [hk] at HRk
            clear hk
            go_wp2_with fail
            go_quiet ((go_at_call 27; exact Calls.quiet_of_same (HIn.out _)))
            rename_i nq
            go_wp2_with fail
            refine (HRk.out _).mono ?_
            rintro e w2 ⟨rfl, rfl⟩
            go_wp2_with fail
            go_roundw
            case rel => exact ⟨j + 1, 1, by omega, rfl, by go_num, .inr ⟨rfl, HKr.out⟩, Below.manyDrew Hb.out nq⟩
            case measure => simp [intOf]; omega
          · have HRk := hid (fun W => rkey_any k W)
            rw [hk] at HRk
            rcases hin : inL k (K.xs.take j) with _ | _
            · have HKr := hid (show giveK (K.xs.take (j + 1)) (K.xs.drop (j + 1)) = R by rw [Htk.out, ← HFk.out, if_pos hk, if_neg (by rw [hin]; decide)])
              rw [hin] at HIn
              clear hk hin
              go_wp2_with fail
              go_quiet ((go_at_call 27; exact Calls.quiet_of_same (HIn.out _)))
              rename_i nq
              go_wp2_with fail
              refine (HRk.out _).mono ?_
              rintro e w2 ⟨rfl, rfl⟩
              go_wp2_with fail
              go_roundw
              case rel => exact ⟨j + 1, 0, by omega, rfl, by go_num, .inl ⟨rfl, HKr.out⟩, Below.manyDrew Hb.out nq⟩
              case measure => simp [intOf]; omega
            · have HKr := hid (show (7 : Int) = R by rw [← HFk.out, if_pos hk, if_pos hin])
              rw [hin] at HIn
              clear hk hin
              go_wp2_with fail
              go_quiet ((go_at_call 27; exact Calls.quiet_of_same (HIn.out _)))
              rename_i nq
              go_wp2_with fail
              refine (HRk.out _).mono ?_
              rintro e w2 ⟨rfl, rfl⟩
              go_wp2_with fail
              go_roundw
              case rel => exact ⟨j + 1, 7, by omega, rfl, by go_num, .inr ⟨rfl, HKr.out⟩, Below.manyDrew Hb.out nq⟩
              case measure => simp [intOf]; omega
        · obtain rfl : j = K.xs.length := by omega
          have HKr := hid (show (0 : Int) = R by rw [← hF, List.drop_length]; rfl)
          clear hF
          go_wp2_with fail
          go_meet
          exact ⟨by rw [HKr.out], hbr⟩
      · by_cases hlt : j < K.xs.length
        all_goals
          go_wp2_with fail
          go_meet
          exact ⟨rfl, hbr⟩
  case rest =>
  obtain ⟨rfl, hbC⟩ := hcut
  obtain ⟨wC, rfl⟩ : ∃ wC : World, wC = wc := ⟨_, rfl⟩
  have HbC := hid (Below.step HbB.out hbC HbB.out.size)
  clear hbC HSt
  have HGs : Hid (giveE s.xs K.xs = 0 → someL s.xs K.xs = giveL s.xs K.xs ∧ s.xs.length ≤ 100) := hid (fun h => ⟨by rw [giveL, if_pos h], by
    unfold giveE at h
    split at h
    · rename_i hc
      have := (val_facts hc).2.2
      omega
    · exact absurd h (by assumption)⟩)
  have HGn := hid (show giveE s.xs K.xs ≠ 0 → giveL s.xs K.xs = [] from fun h => by rw [giveL, if_neg h])
  have HGg := hid (show ∀ e ∈ giveL s.xs K.xs, e.good from by
    unfold giveL
    split
    · rename_i h
      unfold giveE at h
      split at h
      · rename_i hc
        exact val_good (some_val hc _)
      · exact absurd h (by assumption)
    · simp)
  have HGv := hid (give_any s K)
  generalize giveE s.xs K.xs = ge at *
  generalize giveL s.xs K.xs = gl at *
  go_upto_if 112 with fail
  go_cut [20] (fun t wx => RowV wx t gl ∧ Below wC.heap.size wC wx)
  case first =>
    as_aux_lemma =>
    by_cases h0 : ge = 0
    · have hcb : (ge == 0) = true := by rw [h0]; rfl
      obtain ⟨h1, h2⟩ := HGs.out h0
      have HSo := hid (rsome_any s K wC (HS.out _ HbC.out) (HK.out _ HbC.out) h2)
      rw [h1] at HSo
      clear h0 h1 h2
      go_wp2_with fail
      refine HSo.out.mono ?_
      rintro e w6 ⟨v, rfl, hO, hb6⟩
      obtain ⟨t, rfl, htx, htA⟩ := RowV.of_ow hO HGg.out
      have Htx := hid htx
      have HtA := hid htA
      clear hO htx htA
      go_wp2_with fail
      go_meet
      exact ⟨⟨t, rfl, Htx.out, HtA.out⟩, hb6⟩
    · have hcb : (ge == 0) = false := by rw [beq_eq_false_iff_ne]; exact h0
      have HF := hid (HGn.out h0)
      clear h0
      go_wp2_with fail
      go_meet
      exact ⟨by rw [HF.out]; exact RowV.nil _, Below.refl _ _⟩
  case rest =>
  obtain ⟨⟨t, rfl, htx, htA⟩, hbD⟩ := hcut
  obtain ⟨wD, rfl⟩ : ∃ wD : World, wD = wc := ⟨_, rfl⟩
  have Htx := hid htx
  have HtA := hid (fun W (hW : Below wD.heap.size wD W) => htA.stays hW)
  have HbD := hid (Below.step HbC.out hbD HbC.out.size)
  have HGi := hid (HGv.out wD (HS.out _ HbD.out) (HK.out _ HbD.out) Hok.out)
  clear htx htA hbD
  go_wp2_with fail
  refine HGi.out.mono ?_
  rintro e wE ⟨v, rfl, hv, hbE⟩
  obtain ⟨g, rfl, hgx, hgA⟩ := hv
  have Hgx := hid hgx
  have HgA := hid (fun W (hW : Below wE.heap.size wE W) => hgA.stays hW)
  have HbDE := hid hbE
  have HbE := hid (Below.step HbD.out hbE HbD.out.size)
  clear hbE hgx hgA HGi
  go_wp2_with fail
  refine (error_any _ _ wE (HG.out _ HbE.out)).mono ?_
  rw [beq_self_eq_true]
  rintro e wF ⟨rfl, hbF⟩
  have HbF := hid (Below.step HbE.out hbF HbE.out.size)
  have HE3 := hid (ecache_any g t wF (HgA.out _ hbF) (HtA.out _ (Below.step HbDE.out hbF HbDE.out.size)))
  rw [show eqsE g.xs t.xs = true by rw [Hgx.out, Htx.out, eqsE_refl]] at HE3
  clear hbF
  go_wp2_with fail
  refine HE3.out.mono ?_
  rintro e wG ⟨rfl, hbG⟩
  have HbG := hid (Below.step HbF.out hbG HbF.out.size)
  clear hbG
  go_wp2_with fail
  go_ret
  exact ⟨rfl, HbG.out⟩

set_option maxRecDepth 100000 in
theorem swapTells_walk : LawWalk Tryd.prog 11 Tryd.f11 (fun W => Tb W ∧ Gl W) := by
  intro W base args H enc ds p hval hA hgl
  rw [Tryd.params11] at hA hval
  obtain ⟨v0, v1, v2, d0, d1, d2, p0, p1, p2, rfl, rfl, rfl, h0, h1, h2⟩ := trodAll_three hA
  obtain ⟨s, rfl, hs⟩ := arg_slice Tryd.underlying22 codecEntry (pos_of_eq Tryd.cellsEntry (by decide)) (hval 0 22 v0 rfl rfl) h0
  obtain ⟨m, rfl, hm⟩ := arg_slice Tryd.underlying22 codecEntry (pos_of_eq Tryd.cellsEntry (by decide)) (hval 1 22 v1 rfl rfl) h1
  obtain ⟨K, rfl, hK⟩ := arg_slice Tryd.underlying24 (Codec.int Tryd.underlying3) (pos_of_eq Tryd.cellsInt (by decide)) (hval 2 24 v2 rfl rfl) h2
  exact swapTells_any s m K W (entriesAt_of hs).es (entriesAt_of hm).es (intsAt_of hK) ⟨hK.2.2.1, hK.2.2.2⟩ hgl.1 hgl.2

set_option maxRecDepth 100000 in
theorem swapTells_lifted (os : Os) (started : os.Started) (H : Type) (enc : TypeId × Value → H) :
    ReturnsInHanded {} Tryd.checked os 11 .any (fun w args => (Rows.swapTellsSpec.pre enc Tryd.checked.prog Tryd.f11 [] false w args ∧ laidMetH Tryd.prog laid4 w) ∧ sizedMet enc Tryd.checked.prog Tryd.f11 (OpenSpec.ofChange Rows.swapTellsSpec) false w args) (Rows.swapTellsSpec.post enc Tryd.checked.prog Tryd.f11 false true false false) :=
  laid_lifted (C := Tryd.checked) laid4 (fun _ h => tb_of_laid4 h) [] Tryd.own started (by kernel_rfl) Tryd.func11 Tryd.laidOut (by kernel_rfl) rfl Tryd.underlying4 rfl (fun ds h => by match ds, h with | [_, _, _], _ => rfl)
    (ChangeSpec.witness_shaped (enc := enc) (C := Tryd.checked) (os := os) (X := fun w _ => laidMetH Tryd.prog laid4 w) false (World.doorLaid Tryd.prog 4000 os) #[.slice none 0 0, .slice none 0 0, .slice none 0 0] 8 rfl (World.shaped_of_RefB (by kernel_rfl) (by kernel_rfl)) (by kernel_rfl) (by kernel_rfl) (by kernel_rfl) (door_met4 os _)) swapTells_walk

theorem swapTells_row : Rows.SwapTellsSaid :=
  OpenClaim.holds_of_wide 11 Tryd.f11 rfl rfl rfl rfl rfl rfl rfl ⟨rfl, rfl, rfl, rfl, rfl⟩ rfl rfl rfl rfl rfl (by kernel_rfl) Tryd.func11 (by kernel_rfl)
    (of_decide_eq_true (by kernel_rfl)) (by unfold Func.isWrapper; rw [if_neg (of_decide_eq_false (by kernel_rfl))]; exact ⟨rfl, rfl⟩)
    (fun os started H enc _ => swapTells_lifted os started H enc)

theorem swapTells_holds : Rows.SwapTellsCardSaid :=
  Claim7.holds_tied_plain_at .later [] [.data, .data, .data, .handle] true _ true
    swapTells_row (fun _ h => by cases h) (by kernel_rfl) (fun _ h => by cases h) swapTells_row_tie rfl ⟨rfl, rfl⟩ (by kernel_rfl) rfl
    (fun f fn hf hfn => by
      obtain rfl : f = 11 := Option.some.inj ((show Tryd.prog.funcNamed "beaconmere/merelaw2.SwapTells" = some 11 by kernel_rfl).symm.trans hf) |>.symm
      obtain rfl : fn = Tryd.f11 := (Option.some.inj (Tryd.func11.symm.trans hfn)).symm
      refine ⟨by kernel_rfl, fun j t ht => ?_⟩
      have hall : Tryd.f11.params.toList.all (fun t => !Tryd.prog.wantsStandIn t) = true := by kernel_rfl
      have hm : t ∈ Tryd.f11.params.toList := by
        obtain ⟨hj, hje⟩ := Array.getElem?_eq_some_iff.1 ht
        rw [← hje]
        exact Array.mem_toList_iff.2 (Array.getElem_mem hj)
      have := List.all_eq_true.1 hall t hm
      exact (show Tryd.prog.wantsStandIn t = false by simpa using this))
    (by kernel_rfl)

end Go.Proofs.YthjbebngedajiaaDoor
