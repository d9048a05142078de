/-
  CONTRACT of the reference's Owners. CONDITIONS: none.
-/
import Derived.Test.YtemhdfodghfkfaaGreatDoorRtPts
import Derived.Test.YtemhdfodghfkfaaGreatDoorRHash
namespace Go.Proofs.YtemhdfodghfkfaaGreatDoor
open Go.RowKit
open Go.ChangeShapes Go.WideShapes Go.ChangeAt

set_option maxHeartbeats 8000000 in
set_option maxRecDepth 100000 in
theorem ownersR_any (s : SlV Pt) (k : Nat) (w : World) (hs : PtsAt w s) (hk : k < 8) (h0 : 0 < s.xs.length) (h48 : s.xs.length ≤ 48) :
    Calls Tryz.prog 21 #[.slice s.A s.xs.length s.c, .int .i64 k] w fun e w' => ∃ v, e = .returned v ∧ Ow cellI 1 w.heap.size 3 w' v (ownA (rotP s.xs (firstP s.xs k))) ∧ Below w.heap.size w w' := by
  have HS := hid (fun W (hW : Below w.heap.size w W) => hs.stays hW)
  have HP := hid (rpair_any k k (by omega) (by omega) w)
  have hlt := firstP_lt (k : Int) h0
  have HFp := hid (show ∀ R, idxP ((hashL (pairT k k) % 256 : Nat) : Int) s.xs 0 = R → firstP s.xs k = R.toNat from fun R h => by unfold firstP hashP; rw [h])
  generalize hashL (pairT (k : Int) (k : Int)) = h at *
  obtain ⟨R, hR⟩ : ∃ R, idxP ((h % 256 : Nat) : Int) s.xs 0 = R := ⟨_, rfl⟩
  have HR := hid hR
  have HFr := hid (HFp.out R hR)
  clear hs HFp hR
  generalize firstP s.xs (k : Int) = f at *
  have hmod : (h : Int).tmod 256 = ((h % 256 : Nat) : Int) := by rw [Int.tmod_eq_emod_of_nonneg (by omega)]; omega
  go_enter Tryz.func21, Tryz.ntmps21
  go_wp2_with fail
  refine HP.out.mono ?_
  rintro e w1 ⟨rfl, hb1⟩
  have Hb1 := hid hb1
  have hz1 := hb1.size
  obtain ⟨b, off, hA, hb, -⟩ := (HS.out w1 hb1).row h0
  have HA := hid hA
  rw [hA]
  clear hb1 HP hA
  go_upto_block 0 with fail
  go_cut [6] (fun i wx => ∃ F : Nat, i = .int .i64 F ∧ (F = f ∨ (F = s.xs.length ∧ f = 0)) ∧ wx = w1)
  case first =>
    go_wp2_with fail
    go_loopw [6] (fun i wr => ∃ j : Nat, j ≤ s.xs.length ∧ i = .int .i64 j ∧ idxP ((h % 256 : Nat) : Int) (s.xs.drop j) j = R ∧ wr = w1) (fun i _ => s.xs.length - (intOf i).toNat)
    case atStart => exact ⟨0, Nat.zero_le _, rfl, HR.out, rfl⟩
    case round =>
      obtain ⟨j, hj, rfl, hkr, hwr⟩ := hrel
      obtain rfl : w1 = wr := hwr.symm
      by_cases hlt2 : j < s.xs.length
      · obtain ⟨b', off', hA, -, hcells⟩ := (HS.out w1 Hb1.out).row h0
        rw [HA.out] at hA
        cases hA
        obtain ⟨k0, k1⟩ := hcells j hlt2
        rw [drop_consD Pt.zero hlt2, idxP_cons] at hkr
        generalize s.xs.getD j Pt.zero = x at *
        obtain ⟨x0, x1⟩ := x
        simp only at k0 k1 hkr
        have hjl : (j : Int) < (s.xs.length : Int) := by omega
        have Hkr := hid hkr
        clear hcells hkr
        by_cases hv : ((h % 256 : Nat) : Int) ≤ x0
        · have HF := hid (show f = j by rw [HFr.out, ← Hkr.out, if_pos hv, Int.toNat_natCast])
          have hv' : ¬ x0 < (h : Int).tmod 256 := by rw [hmod]; omega
          have hv2 : ¬ x0 < ((h % 256 : Nat) : Int) := by omega
          go_wp2_with fail
          go_meet
          exact ⟨j, rfl, .inl HF.out.symm, rfl⟩
        · have HF := hid (show idxP ((h % 256 : Nat) : Int) (s.xs.drop (j + 1)) (j + 1) = R by rw [← Hkr.out, if_neg hv])
          have hv' : x0 < (h : Int).tmod 256 := by rw [hmod]; omega
          have hv2 : x0 < ((h % 256 : Nat) : Int) := by omega
          go_wp2_with fail
          go_roundw
          case rel => exact ⟨j + 1, by omega, by go_num, HF.out, by first | rfl | trivial⟩
          case measure => simp [intOf]; omega
      · obtain rfl : j = s.xs.length := by omega
        rw [List.drop_length] at hkr
        have HF := hid (show f = 0 by rw [HFr.out, ← hkr]; rfl)
        clear hkr
        go_wp2_with fail
        go_meet
        exact ⟨_, rfl, .inr ⟨rfl, HF.out⟩, rfl⟩
  case rest =>
  obtain ⟨F, rfl, hF, hwc⟩ := hcut
  obtain rfl : w1 = wc := hwc.symm
  have Hget := hid (fun i (hi : i < s.xs.length) => show (rotP s.xs f).getD i Pt.zero = s.xs.getD ((F + i) % s.xs.length) Pt.zero from by
    rw [rotP_getD hlt hi]
    rcases hF with rfl | ⟨rfl, rfl⟩
    · rfl
    · rw [Nat.add_mod_left, Nat.zero_add])
  have hF48 : F ≤ 48 := by omega
  have hrl := rotP_length s.xs (Nat.le_of_lt hlt)
  obtain ⟨L, hL⟩ : ∃ L, L = rotP s.xs f := ⟨_, rfl⟩
  rw [← hL] at Hget hrl
  have HL := hid hL
  clear hL
  have hne : ¬ (s.xs.length : Int) = 0 := by omega
  have hne2 : ((s.xs.length : Int) == 0) = false := by rw [beq_eq_false_iff_ne]; omega
  clear hF HFr HR hmod
  go_wp2_with fail
  go_loopw [7, 8] (fun v i wr => ∃ j : Nat, j ≤ s.xs.length ∧ i = .int .i64 j ∧ Ow cellI 1 w.heap.size 3 wr v (ownA (L.take j)) ∧ Below w.heap.size w wr) (fun _ i _ => s.xs.length - (intOf i).toNat)
  case atStart => exact ⟨0, Nat.zero_le _, rfl, Ow.nil _ _ _ _ _, Hb1.out⟩
  case round =>
    obtain ⟨j, hj, rfl, hO, hbr⟩ := hrel
    obtain ⟨wj, rfl⟩ : ∃ wj : World, wj = wr := ⟨_, rfl⟩
    have Hbr := hid hbr
    have hzj := hbr.size
    obtain ⟨o, rfl, hox, hoA, hoo, -⟩ := IntsAt.of_ow hO
    have hol := ownA_len (L.take j)
    rw [List.length_take] at hol
    have HO := hid hO
    by_cases hlj : j < s.xs.length
    · obtain ⟨b', off', hA, hb2, hcells⟩ := (HS.out wj hbr).row h0
      rw [HA.out] at hA
      cases hA
      obtain ⟨k0, k1⟩ := hcells ((F + j) % s.xs.length) (Nat.mod_lt _ h0)
      have htk := take_snocD Pt.zero (l := L) (k := j) (by omega)
      rw [Hget.out j hlj] at htk
      have hml := Nat.mod_lt (F + j) h0
      have hmd : ((F + j : Nat) : Int).tmod (s.xs.length : Int) = (((F + j) % s.xs.length : Nat) : Int) := rfl
      have hmd2 : ((F : Int) + (j : Int)).tmod (s.xs.length : Int) = (((F + j) % s.xs.length : Nat) : Int) := by rw [← hmd, Int.natCast_add]
      generalize (F + j) % s.xs.length = p at *
      have hpl : (p : Int) < (s.xs.length : Int) := by omega
      have hw64 : wrap64 ((F : Int) + (j : Int)) = (F : Int) + (j : Int) := w64 (by omega) (by omega)
      generalize s.xs.getD p Pt.zero = x at *
      obtain ⟨x0, x1⟩ := x
      simp only at k0 k1
      have hsn := ownA_snoc (L.take j) ⟨x0, x1⟩
      rw [← htk] at hsn
      unfold ownAS at hsn
      simp only at hsn
      rw [← hox] at hsn hol
      have hjl : (j : Int) < (s.xs.length : Int) := by omega
      have HCo := hid (fun W (hW : Below wj.heap.size wj W) => in_any o x1 W (hoA.stays0 hW))
      rw [← hox] at HO
      clear hcells htk hbr hO hoA hoo hox k0
      rcases hin : inL x1 o.xs with _ | _
      · rw [if_neg (inL_false.1 hin)] at hsn
        have Hsn := hid hsn
        rw [hin] at HCo
        clear hsn hin
        go_wp2_with fail
        refine (HCo.out _ (Below.refl _ _)).mono ?_
        rintro e w8 ⟨rfl, hw8⟩
        obtain rfl : wj = w8 := hw8
        go_wp2_with (at_builtin; refine appI _ w.heap.size _ o.xs x1 HO.out rfl _ _ rfl rfl rfl ?_ ?_ ?_ ?_)
        any_goals (first | (with_reducible rfl) | omega)
        intro v8 w8 hO8 f8 o8
        have Hb8 := hid (Hbr.out.trans (f8.below0 hzj (fun i hi => HO.out.ge _ hi)))
        have HO8 := hid hO8
        clear hO8 f8 o8
        go_wp2_with fail
        go_roundw
        case rel => exact ⟨j + 1, by omega, by go_num, by rw [Hsn.out]; exact HO8.out, Hb8.out⟩
        case measure => simp [intOf]; omega
      · rw [if_pos (inL_true.1 hin)] at hsn
        have Hsn := hid hsn
        rw [hin] at HCo
        clear hsn hin
        go_wp2_with fail
        refine (HCo.out _ (Below.refl _ _)).mono ?_
        rintro e w8 ⟨rfl, hw8⟩
        obtain rfl : wj = w8 := hw8
        go_wp2_with fail
        go_roundw
        case rel => exact ⟨j + 1, by omega, by go_num, by rw [Hsn.out]; exact HO.out, Hbr.out⟩
        case measure => simp [intOf]; omega
    · obtain rfl : j = s.xs.length := by omega
      rw [List.take_of_length_le (by omega)] at HO
      clear hO hoA hoo hbr hox hol
      go_wp2_with fail
      go_ret
      exact ⟨_, rfl, by rw [← HL.out]; exact HO.out, Hbr.out⟩
end Go.Proofs.YtemhdfodghfkfaaGreatDoor
