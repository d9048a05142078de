/-
  PROVED HERE: merelaw1.TreeParts returns true: what is told does part, and little is asked. CONDITIONS: the library's tables and errors.errorType as the program's text lays them (tied by the card).
-/
import Derived.Test.YthjbebngedajiaaDoorTFact
import Derived.Test.YthjbebngedajiaaDoorTree3
import Derived.Test.YthjbebngedajiaaDoorCGet
import Derived.Test.YthjbebngedajiaaDoorIn
import Derived.Test.YthjbebngedajiaaDoorInts
import Derived.Test.YthjbebngedajiaaDoorRowV
import Derived.Test.YthjbebngedajiaaDoorELd
import Derived.Deep.DeepCutAuto
import Derived.Deep.CutBlock
import Derived.BigQuiet
import Derived.Deep.QuietTactic
import Derived.ChangeVars
import Derived.JoinedOf
import Derived.Stop.Joined
namespace Go.Proofs.YthjbebngedajiaaDoor
open Go.RowKit
open Go.ChangeShapes Go.WideShapes Go.ChangeAt

theorem getR_at {l : List E} {k : Int} (hl : chkC l = 0) (hk : keyB k = true) : getR l k = match lk l k with | some e => (e, 0) | none => (E.zero, 5) := by
  obtain ⟨ha, _⟩ := val_iff.1 hl
  rw [getR, if_pos hl, if_pos hk, at_lk ha]
  cases hasK k l <;> rfl
theorem text_ne {x y : ByteArray} (h : ¬ x = y) : (x.toList == y.toList) = false := by
  rw [beq_eq_false_iff_ne, ByteArray.toList_eq, ByteArray.toList_eq]
  exact fun e => h (ByteArray.ext (Array.toList_inj.1 e))
/-- How two caches are unlike in a key. -/
def UnA (x y : E) (ex ey : Int) : Prop :=
  (ex = 0 ∧ ey = 5) ∨ (ex = 5 ∧ ey = 0) ∨ (ex = 0 ∧ ey = 0 ∧ (x.ver == y.ver) = false) ∨ (ex = 0 ∧ ey = 0 ∧ (x.ver == y.ver) = true ∧ (x.gone == y.gone) = false) ∨ (ex = 0 ∧ ey = 0 ∧ (x.ver == y.ver) = true ∧ (x.gone == y.gone) = true ∧ (x.text.toList == y.text.toList) = false)
theorem unA_of {a b : List E} {k : Nat} (ha : chkC a = 0) (hb : chkC b = 0) (hk : k < 8) (h : leafN a k ≠ leafN b k) : UnA (getR a k).1 (getR b k).1 (getR a k).2 (getR b k).2 := by
  obtain ⟨h1, h2⟩ := leaf_unlike h
  have hkB : keyB (k : Int) = true := keyB_true.2 ⟨by omega, by omega⟩
  rw [getR_at ha hkB, getR_at hb hkB]
  unfold UnA
  cases hx : lk a (k : Int) with
  | none =>
    cases hy : lk b (k : Int) with
    | none => exact absurd ⟨hx, hy⟩ h1
    | some y => exact .inr (.inl ⟨rfl, rfl⟩)
  | some x =>
    cases hy : lk b (k : Int) with
    | none => exact .inl ⟨rfl, rfl⟩
    | some y =>
      have := h2 x y hx hy
      simp only
      by_cases e1 : x.ver = y.ver
      · by_cases e2 : x.gone = y.gone
        · have e3 : ¬ x.text = y.text := fun e3 => this ⟨e1, e2, e3⟩
          exact .inr (.inr (.inr (.inr ⟨by simp, by simp, by simp [e1], by simp [e2], text_ne e3⟩)))
        · exact .inr (.inr (.inr (.inl ⟨by simp, by simp, by simp [e1], by simpa using e2⟩)))
      · exact .inr (.inr (.inl ⟨by simp, by simp, by simpa using e1⟩))
theorem diff_val {a b : List E} (ha : chkC a = 0) (hb : chkC b = 0) : diffR a b = (partT a b 1, 0) := by rw [diffR, if_pos ha, if_pos hb]
theorem e6_fact : diffR [e6] [] = (([6], 7), 0) := by rw [diff_val e6_val nil_val, fact_part]
theorem part_symm (a b : List E) : partT b a 1 = partT a b 1 := partF_symm _ _ _
theorem EsAt.none (w : World) : EsAt w ⟨none, 0, []⟩ := EsAt.empty _ _ _

set_option maxHeartbeats 200000000 in
set_option maxRecDepth 100000 in
theorem treeParts_any (s m : SlV E) (w : World) (hs : EsAt w s) (hm : EsAt w m) (htb : Tb w) :
    Calls Tryd.prog 5 #[.slice s.A s.xs.length s.c, .slice m.A m.xs.length m.c] w fun e w' => e = .returned (.bool true) ∧ Below w.heap.size w w' := by
  have HT := hid (fun W (hW : Below w.heap.size w W) => htb.belowS hW)
  have HS := hid (fun W (hW : Below w.heap.size w W) => hs.stays hW)
  have HM := hid (fun W (hW : Below w.heap.size w W) => hm.stays hW)
  clear htb hs hm
  go_enter Tryd.func5, Tryd.ntmps5
  go_wp2_with fail
  obtain ⟨w1, hw1⟩ : ∃ w1 : World, w1 = w.alloc (.cells #[.int .i64 6, .int .i64 1, .int .i64 1, .bool false, .string ⟨#[120]⟩] 26) := ⟨_, rfl⟩
  rw [← hw1]
  have HF1 := hid (show EsAt w1 ⟨some ⟨w.heap.size, 0, none⟩, 1, [e6]⟩ by
    rw [hw1]
    exact ⟨fun _ => ⟨w.heap.size, 0, rfl, by simp, fun i hi => by
      obtain rfl : i = 0 := by simpa using hi
      exact EAt.of_blk (Blk.new w _ _)⟩, fun y hy => by rw [List.mem_singleton.1 hy]; exact chk_goodE e6_chk, by unfold maxLen; simp⟩)
  have Hb1 := hid (show Below w.heap.size w w1 by rw [hw1]; (repeat (first | with_reducible exact Below.refl _ _ | with_reducible assumption | (with_reducible refine Below.drew ?_) | (with_reducible refine Below.manyDrew ?_ _) | ((with_reducible refine Below.alloc ?_ ?_ _); rotate_left; (focus (first | omega | (dsimp only; omega) | (simp; done) | (simp; omega)))) | ((with_reducible refine Below.setCell ?_ ?_ _); rotate_left; (focus (first | omega | (dsimp only; omega) | (simp; done) | (simp; omega)))) | ((with_reducible refine Below.step ?_ (by assumption) ?_); rotate_left; (focus (first | omega | (dsimp only; omega) | (simp; done) | (simp; omega)))))))
  clear hw1
  have HD1 := hid (diff_any _ ⟨none, 0, []⟩ w1 HF1.out (EsAt.none _) (HT.out _ Hb1.out))
  simp only [e6_fact] at HD1
  refine HD1.out.mono ?_
  rintro e w2 ⟨q, rfl, ⟨hqx, _⟩, hqA, hb2⟩
  rw [errV_zero]
  have Hb2 := hid (Below.step Hb1.out hb2 Hb1.out.size)
  obtain ⟨qb, qo, hqq, hqb, hqc⟩ := hqA.row (by rw [hqx]; simp)
  have hq0 := hqc 0 (by rw [hqx]; simp)
  rw [hqx, Nat.add_zero] at hq0
  have hql : q.xs.length = 1 := by rw [hqx]; rfl
  rw [hql, hqq]
  have hq0' : w2.cell? ⟨qb, qo, none⟩ = some (.int .i64 6) := hq0
  clear hb2 hqc hq0 hqA hqx hqq hql HF1 HD1
  have HD2 := hid (diff_any s m w2 (HS.out _ Hb2.out) (HM.out _ Hb2.out) (HT.out _ Hb2.out))
  by_cases h0 : (diffR s.xs m.xs).2 = 0
  case neg =>
    have Hen := hid (errV_ne h0)
    generalize (diffR s.xs m.xs).2 = en at *
    generalize (diffR s.xs m.xs).1.1 = K at *
    generalize (diffR s.xs m.xs).1.2 = N at *
    clear h0
    go_wp2_with fail
    refine HD2.out.mono ?_
    rintro e w3 ⟨r, rfl, ⟨hrx, _⟩, hrA, hb3⟩
    rw [Hen.out]
    have Hb3 := hid (Below.step Hb2.out hb3 Hb2.out.size)
    clear hrx hrA hb3
    go_wp2_with fail
    go_ret
    exact ⟨rfl, Hb3.out⟩
  case pos =>
  obtain ⟨hva, hvb⟩ : chkC s.xs = 0 ∧ chkC m.xs = 0 := by
    unfold diffR at h0
    split at h0
    · rename_i h1
      split at h0
      · exact ⟨h1, by assumption⟩
      · exact absurd h0 (by assumption)
    · exact absurd h0 (by assumption)
  have HD3 := hid (fun W (hW : Below w.heap.size w W) => diff_any m s W (HM.out W hW) (HS.out W hW) (HT.out W hW))
  have HD4 := hid (fun W (hW : Below w.heap.size w W) => diff_any s s W (HS.out W hW) (HS.out W hW) (HT.out W hW))
  rw [diff_val hva hvb] at HD2
  rw [diff_val hvb hva, part_symm] at HD3
  rw [diff_val hva hva, partT_self] at HD4
  simp only at HD2 HD3 HD4
  obtain ⟨hpa, hpr, hpd, hp1, hpf⟩ := part_facts s.xs m.xs
  have hpl := part_len s.xs m.xs
  have Hpa := hid hpa
  have Hpr := hid hpr
  have Hpd := hid hpd
  have HPat := hid (fun c => @patch_none s.xs m.xs c)
  have Hva := hid hva
  have Hvb := hid hvb
  clear hpa hpr hpd hva hvb h0
  generalize partT s.xs m.xs 1 = PP at *
  obtain ⟨K, N⟩ := PP
  simp only at hp1 hpf hpl Hpa Hpr Hpd HPat HD2 HD3
  go_wp2_with fail
  refine HD2.out.mono ?_
  rintro e w3 ⟨r, rfl, ⟨hrx, _⟩, hrA, hb3⟩
  rw [errV_zero]
  have Hb3 := hid (Below.step Hb2.out hb3 Hb2.out.size)
  have Hrx := hid hrx
  have HrA := hid (fun W (hW : Below w3.heap.size w3 W) => hrA.stays0 hW)
  have Hrl := hid (show r.xs.length = K.length by rw [hrx])
  clear hb3 hrA hrx hq0' hqb Hb2
  have HD3' := hid (HD3.out w3 Hb3.out)
  go_wp2_with fail
  refine HD3'.out.mono ?_
  rintro e w4 ⟨r2, rfl, ⟨hr2x, _⟩, hr2A, hb4⟩
  rw [errV_zero]
  have Hb34 := hid hb4
  have Hb4 := hid (Below.step Hb3.out hb4 Hb3.out.size)
  have Hr2x := hid hr2x
  have Hr2A := hid (fun W (hW : Below w4.heap.size w4 W) => hr2A.stays0 hW)
  have HD4' := hid (HD4.out w4 Hb4.out)
  clear hb4 hr2A hr2x HD3 HD4 HD3' HD2
  go_wp2_with fail
  refine HD4'.out.mono ?_
  rintro e w5 ⟨r3, rfl, ⟨hr3x, _⟩, hr3A, hb5⟩
  rw [errV_zero]
  have hr3l : r3.xs.length = 0 := by rw [hr3x]; rfl
  rw [hr3l]
  have Hb35 := hid (Below.step Hb34.out hb5 Hb34.out.size)
  have Hb5 := hid (Below.step Hb4.out hb5 Hb4.out.size)
  have HI := hid (ints_any r r2 w5 (HrA.out _ Hb35.out) (Hr2A.out _ hb5))
  rw [show sameI r.xs r2.xs = true by rw [Hrx.out, Hr2x.out, sameI_self]] at HI
  clear hb5 hr3A hr3x hr3l Hr2A Hr2x HD4'
  have hpl' : r.xs.length ≤ 8 := by rw [Hrl.out]; exact hpl
  have hpf' : ¬ (1 + 6 * (r.xs.length : Int) < (N : Int)) := by have := Hrl.out; omega
  have hp1' : ¬ ((N : Int) < 1) := by omega
  go_upto_region 10 with fail
  go_cut [117] (fun t wx => t = .bool false ∧ Below w5.heap.size w5 wx)
  case first =>
    as_aux_lemma =>
    go_wp2_with fail
    refine HI.out.mono ?_
    rintro e w6 ⟨rfl, hb6⟩
    go_wp2_with fail
    go_meet
    refine ⟨?_, hb6⟩
    simp
    omega
  case rest =>
  obtain ⟨rfl, hb6⟩ := hcut
  obtain ⟨w6, rfl⟩ : ∃ w6 : World, w6 = wc := ⟨_, rfl⟩
  have Hb36 := hid (Below.step Hb35.out hb6 Hb35.out.size)
  have Hb6 := hid (Below.step Hb5.out hb6 Hb5.out.size)
  have Hpf := hid (And.intro hp1 hpf)
  clear hb6 HI hp1 hpf hp1' hpf' Hb35 Hb34 Hb4 Hb5
  go_upto_block 0 with fail
  go_cut [] (fun wx => Below w6.heap.size w6 wx)
  case first =>
    as_aux_lemma =>
    have HGa := hid (fun k W (hW : Below w.heap.size w W) => get_any s k W (HS.out W hW).entries)
    have HGb := hid (fun k W (hW : Below w.heap.size w W) => get_any m k W (HM.out W hW).entries)
    have hl8 : r.xs.length ≤ 8 := by rw [Hrl.out]; exact hpl
    go_wp2_with fail
    go_loopw [18] (fun i wr => ∃ j : Nat, j ≤ r.xs.length ∧ i = .int .i64 j ∧ Below w6.heap.size w6 wr) (fun i _ => r.xs.length - (intOf i).toNat)
    case atStart => exact ⟨0, Nat.zero_le _, rfl, Below.refl _ _⟩
    case round =>
      obtain ⟨j, hj, rfl, hbr⟩ := hrel
      have Hbr := hid (Below.step Hb6.out hbr Hb6.out.size)
      by_cases hlt : j < r.xs.length
      · have hrA := HrA.out wr (Below.step Hb36.out hbr Hb36.out.size)
        obtain ⟨b, off, hA, hb, hc⟩ := hrA.row (by omega)
        have hcj := hc j hlt
        have hcp := hc (j - 1) (by omega)
        have hmem : r.xs.getD j 0 ∈ K := by rw [← Hrx.out]; exact getD_memD 0 hlt
        have hlow : 0 < j → r.xs.getD (j - 1) 0 < r.xs.getD j 0 := by
          intro h0
          have hp := Hpa.out
          rw [← Hrx.out] at hp
          have := (List.pairwise_iff_getElem.1 hp) (j - 1) j (by omega) hlt (by omega)
          rw [getD_get 0 hlt, getD_get 0 (show j - 1 < r.xs.length by omega)]
          exact this
        have hrg := Hpr.out _ hmem
        have hun := Hpd.out _ hmem
        generalize r.xs.getD (j - 1) 0 = kp at *
        generalize r.xs.getD j 0 = kj at *
        obtain ⟨n, rfl⟩ := Int.eq_ofNat_of_zero_le hrg.1
        rw [Int.toNat_natCast] at hun
        have hU := unA_of Hva.out Hvb.out (by omega) hun
        have HA1 := hid (HGa.out n wr Hbr.out)
        have HB1 := hid (HGb.out n)
        generalize getR s.xs n = Ga at *
        generalize getR m.xs n = Gb at *
        obtain ⟨⟨x0, x1, x2, x3, x4⟩, ex⟩ := Ga
        obtain ⟨⟨y0, y1, y2, y3, y4⟩, ey⟩ := Gb
        unfold E.val at HA1 HB1
        simp only at HA1 HB1 hU
        have HU := hid hU
        have HA := hid hA
        have Hc := hid hc
        have Hlow := hid hlow
        have Hcj := hid hcj
        have Hcp := hid hcp
        have hkj1 : ¬ ((n : Int) < 0) := by omega
        have hkj2 : ¬ ((7 : Int) < (n : Int)) := by omega
        rw [hA]
        clear hA hc hrA hmem hun hU hrg hcp hlow
        go_wp2_with fail
        refine HA1.out.mono ?_
        rintro e w7 ⟨rfl, hb7⟩
        have Hb7 := hid hb7
        have hz7 := hb7.size
        clear hb7
        go_upto_region 16 with fail
        obtain ⟨w8, hw8⟩ : ∃ w8 : World, w8 = w7.alloc (.cells #[.int .i64 x0, .int .i64 x1, .int .i64 x2, .bool x3, .string x4] 26) := ⟨_, rfl⟩
        rw [← hw8]
        have HX8 := hid (show Blk w8 w7.heap.size 26 #[.int .i64 x0, .int .i64 x1, .int .i64 x2, .bool x3, .string x4] by rw [hw8]; exact Blk.new _ _ _)
        have hb8 : Below wr.heap.size wr w8 := by rw [hw8]; exact Hb7.out.alloc hz7 _
        have Hb8 := hid hb8
        have hz8 := hb8.size
        have hlx := HX8.out.lt
        have c8 : w8.cell? ⟨b, off + j, none⟩ = some (.int .i64 n) := (hb8.cell (p := ⟨b, off + j, none⟩) hb).trans hcj
        have HB8 := hid (HB1.out w8 (Below.step Hbr.out hb8 Hbr.out.size))
        clear hw8 hb8 hcj
        go_wp2_with fail
        refine HB8.out.mono ?_
        rintro e w9 ⟨rfl, hb9⟩
        have Hb9 := hid hb9
        have hz9 := hb9.size
        clear hb9 c8
        go_upto_region 17 with fail
        obtain ⟨wA, hwA⟩ : ∃ wA : World, wA = w9.alloc (.cells #[.int .i64 y0, .int .i64 y1, .int .i64 y2, .bool y3, .string y4] 26) := ⟨_, rfl⟩
        rw [← hwA]
        have hYA : Blk wA w9.heap.size 26 #[.int .i64 y0, .int .i64 y1, .int .i64 y2, .bool y3, .string y4] := by rw [hwA]; exact Blk.new _ _ _
        have hb9A : Below w8.heap.size w8 wA := by rw [hwA]; exact Hb9.out.alloc hz9 _
        have hXA := HX8.out.belowS hb9A
        have hbA : Below wr.heap.size wr wA := Below.step Hb8.out hb9A hz8
        have hcA : wA.cell? ⟨b, off + j, none⟩ = some (.int .i64 n) := (hbA.cell (p := ⟨b, off + j, none⟩) hb).trans Hcj.out
        have hpA : wA.cell? ⟨b, off + (j - 1), none⟩ = some (.int .i64 kp) := (hbA.cell (p := ⟨b, off + (j - 1), none⟩) hb).trans Hcp.out
        have HbA := hid (Below.step hbr hbA hbr.size)
        have HYA := hid hYA
        have HXA := hid hXA
        clear hwA hYA hXA hb9A hbA hbr
        go_cut [206] (fun t wx => t = .bool false ∧ Below wA.heap.size wA wx)
        case first =>
          have d1 : decide ((n : Int) < 0) = false := by simp
          have d2 : decide ((7 : Int) < (n : Int)) = false := by simp; omega
          have x1A : wA.cell? ⟨w7.heap.size, 1, none⟩ = some (.int .i64 x1) := HXA.out.cell 1
          have y1A : wA.cell? ⟨w9.heap.size, 1, none⟩ = some (.int .i64 y1) := HYA.out.cell 1
          have x3A : wA.cell? ⟨w7.heap.size, 3, none⟩ = some (.bool x3) := HXA.out.cell 3
          have y3A : wA.cell? ⟨w9.heap.size, 3, none⟩ = some (.bool y3) := HYA.out.cell 3
          have x4A : wA.cell? ⟨w7.heap.size, 4, none⟩ = some (.string x4) := HXA.out.cell 4
          have y4A : wA.cell? ⟨w9.heap.size, 4, none⟩ = some (.string y4) := HYA.out.cell 4
          have hlxA := HXA.out.lt
          have hlyA := HYA.out.lt
          simp only [List.append_eq, List.cons_append, List.nil_append]
          have hu := HU.out
          unfold UnA at hu
          have Hhu := hid hu
          clear hu HT HS HM Hb1 Hva Hvb Hpa Hpr Hpd HPat Hb3 Hrx HrA Hrl Hb36 Hb6 Hpf HGa HGb Hbr HA1 HB1 HA Hc Hcj Hcp Hb7 HX8 Hb8 HB8 Hb9 HbA HYA HXA HU hkj1 hkj2
          rcases Nat.eq_zero_or_pos j with h0 | h0
          · subst h0
            clear hpA
            rw [Nat.add_zero] at hcA
            rw [show ((0 : Nat) : Int) = 0 from rfl]
            have d0 : decide ((0 : Int) < 0) = false := by simp
            have hu := Hhu.out
            clear Hhu Hlow
            rcases hu with ⟨rfl, rfl⟩ | ⟨rfl, rfl⟩ | ⟨rfl, rfl, u1⟩ | ⟨rfl, rfl, u1, u2⟩ | ⟨rfl, rfl, u1, u2, u3⟩
            all_goals
              try rw [errV_zero]
              try rw [show errV 5 = .iface 87 (.int .i64 5) from rfl]
              go_quiet (fail)
              go_wp2_with fail
              go_meet
              exact ⟨rfl, Below.manyDrew (Below.refl _ _) _⟩
          · have d0 : decide ((0 : Int) < (j : Int)) = true := by simp; omega
            have hlw := Hlow.out h0
            have d3 : decide ((n : Int) ≤ kp) = false := by simp; omega
            have hu := Hhu.out
            clear Hhu Hlow
            rcases hu with ⟨rfl, rfl⟩ | ⟨rfl, rfl⟩ | ⟨rfl, rfl, u1⟩ | ⟨rfl, rfl, u1, u2⟩ | ⟨rfl, rfl, u1, u2, u3⟩
            all_goals
              try rw [errV_zero]
              try rw [show errV 5 = .iface 87 (.int .i64 5) from rfl]
              go_quiet (fail)
              go_wp2_with fail
              go_meet
              exact ⟨rfl, Below.manyDrew (Below.refl _ _) _⟩
        case rest =>
        obtain ⟨rfl, hbB⟩ := hcut
        obtain ⟨wB, rfl⟩ : ∃ wB : World, wB = wc := ⟨_, rfl⟩
        have HbB := hid (Below.step HbA.out hbB HbA.out.size)
        clear hbB hcA hpA
        go_wp2_with fail
        go_roundw
        case rel => exact ⟨j + 1, by omega, by go_num, HbB.out⟩
        case measure => simp [intOf]; omega
      · go_wp2_with fail
        go_meet
        exact hbr
  case rest =>
  have hb7 := hcut
  obtain ⟨w7, rfl⟩ : ∃ w7 : World, w7 = wc := ⟨_, rfl⟩
  have Hb37 := hid (Below.step Hb36.out hb7 Hb36.out.size)
  have Hb7 := hid (Below.step Hb6.out hb7 Hb6.out.size)
  clear hb7 hcut
  have HPk := hid (pick_val Hva.out Hvb.out K 8)
  have HPg := hid (fun n => val_good (pick_val Hva.out Hvb.out K n))
  go_upto_block 2 with fail
  go_cut [23] (fun v wx => RowV wx v (pickL s.xs m.xs K 8) ∧ Below w7.heap.size w7 wx)
  case first =>
    as_aux_lemma =>
    have HGa := hid (fun k W (hW : Below w.heap.size w W) => get_any s k W (HS.out W hW).entries)
    have HGb := hid (fun k W (hW : Below w.heap.size w W) => get_any m k W (HM.out W hW).entries)
    go_wp2_with fail
    go_loopw [23, 24] (fun v i wr => ∃ n : Nat, n ≤ 8 ∧ i = .int .i64 n ∧ Ow E.cells 5 w7.heap.size 26 wr v (pickL s.xs m.xs K n) ∧ Below w7.heap.size w7 wr) (fun _ i _ => 8 - (intOf i).toNat)
    case atStart => exact ⟨0, by omega, rfl, Ow.nil _ _ _ _ _, Below.refl _ _⟩
    case round =>
      obtain ⟨n, hn, rfl, hO, hbr⟩ := hrel
      have Hbr := hid (Below.step Hb7.out hbr Hb7.out.size)
      have Hb := hid hbr
      have HO := hid hO
      have hzr := hbr.size
      by_cases hlt : n < 8
      · have HIn := hid (in_any r n wr (HrA.out _ (Below.step Hb37.out hbr Hb37.out.size)))
        rw [show inL n r.xs = inL n K by rw [Hrx.out]] at HIn
        have hps := pick_succ s.xs m.xs K n
        have hpl := pick_len s.xs m.xs K n
        have hkB : keyB (n : Int) = true := keyB_true.2 ⟨by omega, by omega⟩
        rcases hin : inL n K with _ | _
        · rw [if_neg (inL_false.1 hin)] at hps
          have HGt := hid (fun W hW => HGb.out n W hW)
          rw [getR_at Hvb.out hkB] at HGt
          rw [hin] at HIn
          cases hlk : lk m.xs (n : Int) with
          | none =>
            rw [hlk] at HGt hps
            simp only at HGt
            rw [Option.toList_none, List.append_nil] at hps
            rw [show E.zero.val = .agg #[.int .i64 0, .int .i64 0, .int .i64 0, .bool false, .string ⟨#[]⟩] from rfl, show errV 5 = .iface 87 (.int .i64 5) from rfl] at HGt
            have Hps := hid hps
            clear hO hbr hin hkB hlk hps
            go_wp2_with fail
            refine HIn.out.mono ?_
            rintro e w' ⟨rfl, rfl⟩
            go_wp2_with fail
            refine (HGt.out _ Hbr.out).mono ?_
            rintro e w8 ⟨rfl, hb8⟩
            have HO8 := hid (HO.out.belowS hb8)
            have Hb8 := hid (Below.step Hb.out hb8 hzr)
            have hz8 := Hb8.out.size
            clear hb8
            go_wp2_with fail
            go_roundw
            case rel => exact ⟨n + 1, by omega, by go_num, by rw [Hps.out]; exact HO8.out.alloc _, Hb8.out.alloc hz8 _⟩
            case measure => simp [intOf]; omega
          | some e =>
            rw [hlk] at HGt hps
            obtain ⟨x0, x1, x2, x3, x4⟩ := e
            unfold E.val at HGt
            simp only at HGt
            rw [Option.toList_some] at hps
            rw [show errV 0 = .nilIface from rfl] at HGt
            have Hps := hid hps
            clear hO hbr hin hkB hlk hps
            generalize pickL s.xs m.xs K n = L at *
            go_wp2_with fail
            refine HIn.out.mono ?_
            rintro e w' ⟨rfl, rfl⟩
            go_wp2_with fail
            refine (HGt.out _ Hbr.out).mono ?_
            rintro e w8 ⟨rfl, hb8⟩
            have HO8 := hid (HO.out.belowS hb8)
            have Hb8 := hid (Below.step Hb.out hb8 hzr)
            have hz8 := Hb8.out.size
            clear hb8
            go_wp2_with (first | (with_reducible refine at_loadE rfl ?_; refine ldE rfl _ rfl w8.heap.size 0 rfl _ _ _ _ _ (Blk.range5 (Blk.new _ _ _)) ?_) | (with_reducible refine at_buildE rfl ?_; refine bdE rfl _ rfl _ _ _ _ _ rfl ?_) | (at_builtin; refine appE _ w7.heap.size _ L x0 x1 x2 x3 x4 (HO8.out.alloc _) rfl _ _ rfl rfl rfl ?_ ?_ ?_ ?_))
            any_goals (first | (with_reducible rfl) | omega | exact World.size_alloc _ _ | (show _ ≤ _; rw [World.size_alloc]; omega))
            intro v9 w9 h9 f9 o9
            have hb9 : Below w7.heap.size w7 w9 := (Hb8.out.alloc hz8 _).trans (f9.below0 (by simp; omega) (fun i hi => HO8.out.ge _ hi))
            go_wp2_with fail
            go_roundw
            case rel => exact ⟨n + 1, by omega, by go_num, by rw [Hps.out]; exact h9, hb9⟩
            case measure => simp [intOf]; omega
        · rw [if_pos (inL_true.1 hin)] at hps
          have HGt := hid (fun W hW => HGa.out n W hW)
          rw [getR_at Hva.out hkB] at HGt
          rw [hin] at HIn
          cases hlk : lk s.xs (n : Int) with
          | none =>
            rw [hlk] at HGt hps
            simp only at HGt
            rw [Option.toList_none, List.append_nil] at hps
            rw [show E.zero.val = .agg #[.int .i64 0, .int .i64 0, .int .i64 0, .bool false, .string ⟨#[]⟩] from rfl, show errV 5 = .iface 87 (.int .i64 5) from rfl] at HGt
            have Hps := hid hps
            clear hO hbr hin hkB hlk hps
            go_wp2_with fail
            refine HIn.out.mono ?_
            rintro e w' ⟨rfl, rfl⟩
            go_wp2_with fail
            refine (HGt.out _ Hbr.out).mono ?_
            rintro e w8 ⟨rfl, hb8⟩
            have HO8 := hid (HO.out.belowS hb8)
            have Hb8 := hid (Below.step Hb.out hb8 hzr)
            have hz8 := Hb8.out.size
            clear hb8
            go_wp2_with fail
            go_roundw
            case rel => exact ⟨n + 1, by omega, by go_num, by rw [Hps.out]; exact HO8.out.alloc _, Hb8.out.alloc hz8 _⟩
            case measure => simp [intOf]; omega
          | some e =>
            rw [hlk] at HGt hps
            obtain ⟨x0, x1, x2, x3, x4⟩ := e
            unfold E.val at HGt
            simp only at HGt
            rw [Option.toList_some] at hps
            rw [show errV 0 = .nilIface from rfl] at HGt
            have Hps := hid hps
            clear hO hbr hin hkB hlk hps
            generalize pickL s.xs m.xs K n = L at *
            go_wp2_with fail
            refine HIn.out.mono ?_
            rintro e w' ⟨rfl, rfl⟩
            go_wp2_with fail
            refine (HGt.out _ Hbr.out).mono ?_
            rintro e w8 ⟨rfl, hb8⟩
            have HO8 := hid (HO.out.belowS hb8)
            have Hb8 := hid (Below.step Hb.out hb8 hzr)
            have hz8 := Hb8.out.size
            clear hb8
            go_wp2_with (first | (with_reducible refine at_loadE rfl ?_; refine ldE rfl _ rfl w8.heap.size 0 rfl _ _ _ _ _ (Blk.range5 (Blk.new _ _ _)) ?_) | (with_reducible refine at_buildE rfl ?_; refine bdE rfl _ rfl _ _ _ _ _ rfl ?_) | (at_builtin; refine appE _ w7.heap.size _ L x0 x1 x2 x3 x4 (HO8.out.alloc _) rfl _ _ rfl rfl rfl ?_ ?_ ?_ ?_))
            any_goals (first | (with_reducible rfl) | omega | exact World.size_alloc _ _ | (show _ ≤ _; rw [World.size_alloc]; omega))
            intro v9 w9 h9 f9 o9
            have hb9 : Below w7.heap.size w7 w9 := (Hb8.out.alloc hz8 _).trans (f9.below0 (by simp; omega) (fun i hi => HO8.out.ge _ hi))
            go_wp2_with fail
            go_roundw
            case rel => exact ⟨n + 1, by omega, by go_num, by rw [Hps.out]; exact h9, hb9⟩
            case measure => simp [intOf]; omega
      · obtain rfl : n = 8 := by omega
        have HR := hid (RowV.of_ow hO (HPg.out 8))
        clear hO
        go_wp2_with fail
        go_meet
        exact ⟨HR.out, hbr⟩
  case rest =>
  obtain ⟨⟨t, rfl, htx, htA⟩, hb8⟩ := hcut
  obtain ⟨w8, rfl⟩ : ∃ w8 : World, w8 = wc := ⟨_, rfl⟩
  have Htx := hid htx
  have Hb8 := hid (Below.step Hb7.out hb8 Hb7.out.size)
  have HD := hid (diff_any s t w8 (HS.out _ Hb8.out) htA (HT.out _ Hb8.out))
  rw [show diffR s.xs t.xs = (([], 1), 0) by
    rw [Htx.out, diff_val Hva.out HPk.out, HPat.out _ (fun k h8 => by
      rw [pick_lk, if_pos h8]
      split <;> rfl)]] at HD
  clear htx htA hb8
  go_wp2_with fail
  refine HD.out.mono ?_
  rintro e w9 ⟨z, rfl, ⟨hzx, _⟩, hzA, hb9⟩
  rw [errV_zero]
  have Hb9 := hid (Below.step Hb8.out hb9 Hb8.out.size)
  have hzl : z.xs.length = 0 := by rw [hzx]; rfl
  rw [hzl]
  clear hb9 hzx hzA hzl
  go_wp2_with fail
  go_ret
  exact ⟨rfl, Hb9.out⟩

set_option maxRecDepth 100000 in
theorem treeParts_walk : LawWalk Tryd.prog 5 Tryd.f5 Tb := by
  intro W base args H enc ds p hval hA hgl
  rw [Tryd.params5] at hA hval
  obtain ⟨v0, v1, d0, d1, p0, p1, rfl, rfl, rfl, h0, h1⟩ := trodAll_two hA
  obtain ⟨s, rfl, hs⟩ := arg_slice Tryd.underlying22 codecEntry (pos_of_eq Tryd.cellsEntry (by decide)) (hval 0 22 v0 rfl rfl) h0
  obtain ⟨m, rfl, hm⟩ := arg_slice Tryd.underlying22 codecEntry (pos_of_eq Tryd.cellsEntry (by decide)) (hval 1 22 v1 rfl rfl) h1
  exact treeParts_any s m W (entriesAt_of hs).es (entriesAt_of hm).es hgl

set_option maxRecDepth 100000 in
theorem treeParts_lifted (os : Os) (started : os.Started) (H : Type) (enc : TypeId × Value → H) :
    ReturnsInHanded {} Tryd.checked os 5 .any (fun w args => (Rows.treePartsSpec.pre enc Tryd.checked.prog Tryd.f5 [] false w args ∧ laidMetH Tryd.prog laid3 w) ∧ sizedMet enc Tryd.checked.prog Tryd.f5 (OpenSpec.ofChange Rows.treePartsSpec) false w args) (Rows.treePartsSpec.post enc Tryd.checked.prog Tryd.f5 false true false false) :=
  laid_lifted (C := Tryd.checked) laid3 (fun _ h => tb_of_laid3 h) [] Tryd.own started (by kernel_rfl) Tryd.func5 Tryd.laidOut (by kernel_rfl) rfl Tryd.underlying4 rfl (fun ds h => by match ds, h with | [_, _], _ => rfl)
    (ChangeSpec.witness_shaped (enc := enc) (C := Tryd.checked) (os := os) (X := fun w _ => laidMetH Tryd.prog laid3 w) false (World.doorLaid Tryd.prog 4000 os) #[.slice none 0 0, .slice none 0 0] 8 rfl (World.shaped_of_RefB (by kernel_rfl) (by kernel_rfl)) (by kernel_rfl) (by kernel_rfl) (by kernel_rfl) (door_met3 os _)) treeParts_walk

theorem treeParts_row : Rows.TreePartsSaid :=
  OpenClaim.holds_of_wide 5 Tryd.f5 rfl rfl rfl rfl rfl rfl rfl ⟨rfl, rfl, rfl, rfl, rfl⟩ rfl rfl rfl rfl rfl (by kernel_rfl) Tryd.func5 (by kernel_rfl)
    (of_decide_eq_true (by kernel_rfl)) (by unfold Func.isWrapper; rw [if_neg (of_decide_eq_false (by kernel_rfl))]; exact ⟨rfl, rfl⟩)
    (fun os started H enc _ => treeParts_lifted os started H enc)

theorem treeParts_holds : Rows.TreePartsCardSaid :=
  Claim7.holds_tied_plain_at .later [] [.data, .data, .data] true _ true
    treeParts_row (fun _ h => by cases h) (by kernel_rfl) (fun _ h => by cases h) treeParts_row_tie rfl ⟨rfl, rfl⟩ (by kernel_rfl) rfl
    (fun f fn hf hfn => by
      obtain rfl : f = 5 := Option.some.inj ((show Tryd.prog.funcNamed "beaconmere/merelaw1.TreeParts" = some 5 by kernel_rfl).symm.trans hf) |>.symm
      obtain rfl : fn = Tryd.f5 := (Option.some.inj (Tryd.func5.symm.trans hfn)).symm
      refine ⟨by kernel_rfl, fun j t ht => ?_⟩
      have hall : Tryd.f5.params.toList.all (fun t => !Tryd.prog.wantsStandIn t) = true := by kernel_rfl
      have hm : t ∈ Tryd.f5.params.toList := by
        obtain ⟨hj, hje⟩ := Array.getElem?_eq_some_iff.1 ht
        rw [← hje]
        exact Array.mem_toList_iff.2 (Array.getElem_mem hj)
      have := List.all_eq_true.1 hall t hm
      exact (show Tryd.prog.wantsStandIn t = false by simpa using this))
    (by kernel_rfl)

end Go.Proofs.YthjbebngedajiaaDoor
