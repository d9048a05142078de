/-
  PROVED HERE: merelaw2.ProbeTells returns true for every five numbers: whom any node asks at any turn, a row of turns, and when it asks any. CONDITIONS: errors.errorType as the program's text lays it (tied by the card).
-/
import Derived.Test.YtkokohlkjlgdkaaDoorProbeLaw
import Derived.Test.YtkokohlkjlgdkaaDoorProbeRow
import Derived.Test.YtkokohlkjlgdkaaDoorInts
import Derived.Test.YtkokohlkjlgdkaaDoorDoor
import Derived.Deep.DeepCutAuto
import Derived.Deep.CutBlock
namespace Go.Proofs.YtkokohlkjlgdkaaDoor
open Go.RowKit
open Go.ChangeShapes Go.WideShapes Go.ChangeAt

/-- the first turn at which a node is asked -/
theorem first_turn {me n k : Int} (h1 : 2 ≤ n) (h2 : n ≤ 6) (h3 : 0 ≤ me) (h4 : me < n) (hk0 : 0 ≤ k) (hk1 : k < n) (hne : k ≠ me) :
    (0 ≤ (k - me - 1 + n) % n ∧ (k - me - 1 + n) % n < n - 1) ∧ atI me n ((k - me - 1 + n) % n) = k ∧ ∀ j, 0 ≤ j → j < (k - me - 1 + n) % n → atI me n j ≠ k := by
  unfold atI
  rcases five h1 h2 with rfl | rfl | rfl | rfl | rfl
  all_goals
    simp only [Int.reduceSub] at *
    refine ⟨by omega, by omega, fun j hj0 hj1 => by omega⟩
def pE (me n : Int) : Int := if pchk me n = true then 0 else 1
def fE (me n t : Int) : Int := if turnB t = true then pE me n else 1
def gE (me n t m : Int) : Int := if turnB m = true then fE me n t else 1
theorem targetR_err (me n t : Int) : (targetR me n t).2 = fE me n t := by
  unfold targetR fE pE
  split <;> split <;> rfl
theorem rowR_err (me n t m : Int) : (rowR me n t m).2 = gE me n t m := by
  unfold rowR gE fE pE rowOk
  rcases pchk me n with _ | _ <;> rcases turnB t with _ | _ <;> rcases turnB m with _ | _ <;> rfl
def hE (me n k : Int) : Int := if pchk me n = true then (if 0 ≤ k ∧ k < n then (if k = me then 5 else 0) else 1) else 1
theorem whenR_err (me n k : Int) : (whenR me n k).2 = hE me n k := by
  unfold whenR hE
  split <;> (try rfl)
  split <;> (try rfl)
  split <;> rfl
theorem fE_zero {me n t : Int} (h : fE me n t = 0) : pchk me n = true ∧ turnB t = true := by
  unfold fE pE at h
  split at h
  · split at h
    · exact ⟨‹_›, ‹_›⟩
    · cases h
  · cases h
theorem gE_zero {me n t m : Int} (h : gE me n t m = 0) : pchk me n = true ∧ turnB t = true ∧ turnB m = true := by
  unfold gE at h
  split at h
  · exact ⟨(fE_zero h).1, (fE_zero h).2, ‹_›⟩
  · cases h
theorem fE_not {me n t : Int} (h : fE me n t ≠ 0) : (targetR me n t).1 = 0 := by
  unfold fE pE at h
  unfold targetR
  split
  · split
    · rename_i h1 h2
      rw [if_pos h2, if_pos h1] at h
      exact absurd rfl h
    · rfl
  · rfl
theorem gE_not {me n t m : Int} (h : gE me n t m ≠ 0) : (rowR me n t m).1 = [] := by
  unfold rowR
  split
  · rename_i h1
    obtain ⟨a, b, c⟩ := rowOk_true.1 h1
    unfold gE fE pE at h
    rw [if_pos c, if_pos b, if_pos a] at h
    exact absurd rfl h
  · rfl

set_option maxHeartbeats 8000000 in
set_option maxRecDepth 100000 in
theorem probeTells_any (me n t m k : Int) (w : World) (hgl : Gl w) :
    Calls Tryd.prog 4 #[.int .i64 me, .int .i64 n, .int .i64 t, .int .i64 m, .int .i64 k] w fun e w' => e = .returned (.bool true) ∧ Below w.heap.size w w' := by
  go_enter Tryd.func4, Tryd.ntmps4
  go_upto_region 2 with fail
  go_cut [37] (fun q wx => q = .bool (!pchk me n) ∧ wx = w)
  case first =>
    go_wp2_with fail
    all_goals
      go_meet
      refine ⟨?_, rfl⟩
      congr 1
      first | (simp [pchk, *]; done) | (rw [Bool.eq_iff_iff]; simp [pchk]; omega) | (rw [Bool.eq_iff_iff]; simp [pchk, *]; done) | (rw [Bool.eq_iff_iff]; simp [pchk]; done)
  case rest =>
  obtain ⟨rfl, rfl⟩ := hcut
  go_upto_if 37 with fail
  go_cut [11] (fun q wx => q = .int .i64 (pE me n) ∧ wx = wc)
  case first =>
    go_wp2_with fail
    all_goals
      go_meet
      refine ⟨?_, rfl⟩
      unfold pE
      simp_all
  case rest =>
  obtain ⟨rfl, rfl⟩ := hcut
  go_upto_region 5 with fail
  go_cut [44] (fun q wx => q = .bool (!turnB t) ∧ wx = wc)
  case first =>
    go_wp2_with fail
    all_goals
      go_meet
      refine ⟨?_, rfl⟩
      congr 1
      first | (simp [turnB, *]; done) | (rw [Bool.eq_iff_iff]; simp [turnB]; omega) | (rw [Bool.eq_iff_iff]; simp [turnB, *]; done) | (rw [Bool.eq_iff_iff]; simp [turnB]; done)
  case rest =>
  obtain ⟨rfl, rfl⟩ := hcut
  go_upto_if 44 with fail
  go_cut [12] (fun q wx => q = .int .i64 (fE me n t) ∧ wx = wc)
  case first =>
    go_wp2_with fail
    all_goals
      go_meet
      refine ⟨?_, rfl⟩
      unfold fE
      simp_all
  case rest =>
  obtain ⟨rfl, rfl⟩ := hcut
  go_upto_if 46 with fail
  go_cut [13] (fun q wx => q = .int .i64 (targetR me n t).1 ∧ wx = wc)
  case first =>
    by_cases hf : fE me n t = 0
    · have hb : (fE me n t == 0) = true := by rw [hf]; rfl
      obtain ⟨hp, ht⟩ := fE_zero hf
      obtain ⟨h1, h2, h3, h4⟩ := pchk_true.1 hp
      obtain ⟨h5, h6⟩ := turnB_true.1 ht
      have hT : (targetR me n t).1 = atI me n t := by rw [targetR, if_pos hp, if_pos ht]
      have HT := hid hT
      have h6' : t ≤ 120 := by omega
      clear hf hp ht hT
      go_wp2_with ((go_at_call 13; refine (rtarget_any me n t _ h1 h2 h3 h4 h5 h6').mono ?_; rintro e w' ⟨rfl, rfl⟩))
      go_meet
      exact ⟨by rw [HT.out], rfl⟩
    · have hb : (fE me n t == 0) = false := by rw [beq_eq_false_iff_ne]; exact hf
      have HT := hid (fE_not hf)
      clear hf
      go_wp2_with fail
      go_meet
      exact ⟨by rw [HT.out], rfl⟩
  case rest =>
  obtain ⟨rfl, rfl⟩ := hcut
  go_wp2_with fail
  refine (target_any me n t _).mono ?_
  rw [targetR_err]
  rintro e w' ⟨rfl, rfl⟩
  go_wp2_with fail
  refine (error_any _ _ _ hgl).mono ?_; rintro e w1 ⟨rfl, hb1⟩; obtain ⟨hc1, hf1⟩ := bcell hb1; have hz1 := hb1.size; (try simp only [World.size_alloc] at hz1); (try simp only [World.size_setCell] at hz1)
  rw [beq_self_eq_true]
  go_upto_region 12 with fail
  have hgl1 : Gl w1 := hgl.belowS hb1
  go_cut [71] (fun q wx => q = .bool (!turnB m) ∧ wx = w1)
  case first =>
    go_wp2_with fail
    all_goals
      go_meet
      refine ⟨?_, rfl⟩
      congr 1
      first | (simp [turnB, *]; done) | (rw [Bool.eq_iff_iff]; simp [turnB]; omega) | (rw [Bool.eq_iff_iff]; simp [turnB, *]; done) | (rw [Bool.eq_iff_iff]; simp [turnB]; done)
  case rest =>
  obtain ⟨rfl, rfl⟩ := hcut
  go_upto_if 71 with fail
  go_cut [12] (fun q wx => q = .int .i64 (gE me n t m) ∧ wx = wc)
  case first =>
    go_wp2_with fail
    all_goals
      go_meet
      refine ⟨?_, rfl⟩
      unfold gE
      simp_all
  case rest =>
  obtain ⟨rfl, rfl⟩ := hcut
  go_upto_block 0 with fail
  obtain ⟨wo, rfl⟩ : ∃ wo : World, wo = wc := ⟨_, rfl⟩
  go_cut [17] (fun v wx => ∃ r : SlV Int, v = .slice r.A r.xs.length r.c ∧ r.xs = (rowR me n t m).1 ∧ IntsAt wx r ∧ Below wo.heap.size wo wx)
  case first =>
    by_cases hf : gE me n t m = 0
    · have hb : (gE me n t m == 0) = true := by rw [hf]; rfl
      obtain ⟨hp, ht, hm⟩ := gE_zero hf
      obtain ⟨h1, h2, h3, h4⟩ := pchk_true.1 hp
      obtain ⟨h5, h6⟩ := turnB_true.1 ht
      obtain ⟨h7, h8⟩ := turnB_true.1 hm
      have hR : (rowR me n t m).1 = rowL me n t m.toNat := by rw [rowR, if_pos (rowOk_true.2 ⟨hp, ht, hm⟩)]
      have HR := hid hR
      clear hf hp ht hm hR
      obtain ⟨M, rfl⟩ := Int.eq_ofNat_of_zero_le h7
      rw [Int.toNat_natCast] at HR
      go_wp2_with fail
      go_loopw [17, 18] (fun v i wr => ∃ j : Nat, j ≤ M ∧ i = .int .i64 j ∧ Ow cellI 1 wo.heap.size 3 wr v (rowL me n t j) ∧ Below wo.heap.size wo wr) (fun _ i _ => M - (intOf i).toNat)
      case atStart => exact ⟨0, Nat.zero_le _, rfl, Ow.nil _ _ _ _ _, Below.refl _ _⟩
      case round =>
        obtain ⟨j, hj, rfl, hown, hbr⟩ := hrel
        by_cases hlt : j < M
        · have hz := hbr.size
          have HS := hid (rowL_succ me n t j)
          have HL := hid (rowL_length me n t j)
          generalize rowL me n t j = L at *
          have hk0 : 0 ≤ t + (j : Int) := by omega
          have hk1 : t + (j : Int) ≤ 120 := by omega
          go_wp2_with (first | ((go_at_call 13; refine (rtarget_any me n (t + j) _ h1 h2 h3 h4 hk0 hk1).mono ?_; rintro e w' ⟨rfl, rfl⟩)) | (at_builtin; refine appI _ wo.heap.size _ L (atI me n (t + j)) hown rfl _ _ rfl rfl rfl ?c0 ?c1 ?c2 ?_))
          try (case c0 => rfl)
          case c1 => rw [HL.out]; omega
          case c2 => exact hz
          intro v' w2 hown2 hf2 _
          have hb2 : Below wo.heap.size wo w2 := hbr.trans (hf2.below0 hz hown.ge)
          rw [← HS.out] at hown2
          clear hf2 hown
          go_wp2_with fail
          go_roundw
          case rel => exact ⟨j + 1, by omega, by go_num, hown2, hb2⟩
          case measure => simp [intOf]; omega
        · obtain rfl : j = M := by omega
          obtain ⟨r, rfl, hrx, hrA, hro, _⟩ := IntsAt.of_ow hown
          have Hrx := hid hrx
          clear hrx hown
          go_wp2_with fail
          go_meet
          exact ⟨r, rfl, by rw [Hrx.out, HR.out], hrA, hbr⟩
    · have hb : (gE me n t m == 0) = false := by rw [beq_eq_false_iff_ne]; exact hf
      have HR := hid (gE_not hf)
      clear hf
      by_cases hm0 : 0 < m
      all_goals
        go_wp2_with fail
        go_loopw [17, 18] (fun v i wr => v = .slice none 0 0 ∧ i = .int .i64 0 ∧ wr = wo) (fun _ _ _ => 0)
        case atStart => exact ⟨rfl, rfl, rfl⟩
        case round =>
          obtain ⟨rfl, rfl, rfl⟩ := hrel
          go_wp2_with fail
          go_meet
          exact ⟨⟨none, 0, []⟩, rfl, HR.out.symm, IntsAt.bare _ _ _, Below.refl _ _⟩
  case rest =>
  obtain ⟨r, rfl, hrx, hrA, hb2⟩ := hcut
  have hgl2 : Gl wc := hgl1.belowS hb2
  have Hrx := hid hrx
  clear hrx
  go_wp2_with fail
  refine (row_any me n t m _).mono ?_
  rw [rowR_err]
  rintro e w3 ⟨r2, rfl, hr2, hr2A, _, hb3⟩
  have hgl3 : Gl w3 := hgl2.belowS hb3
  have Hr2 := hid hr2
  clear hr2
  go_wp2_with fail
  refine (error_any _ _ _ hgl3).mono ?_
  rintro e w4 ⟨rfl, hb4⟩
  rw [beq_self_eq_true]
  go_wp2_with fail
  refine (ints_any r2 r _ (hr2A.stays0 hb4) ((hrA.stays0 hb3).stays0 hb4)).mono ?_
  rw [Hr2.out, ← Hrx.out, sameI_self]
  rintro e w5 ⟨rfl, hb5⟩
  have hgl5 : Gl w5 := (hgl3.belowS hb4).belowS hb5
  have hbel : Below wo.heap.size wo w5 := (hb2.trans (hb3.mono hb2.size)).trans (((hb4.mono hb3.size).trans (hb5.mono (Nat.le_trans hb3.size hb4.size))).mono hb2.size)
  have Hbel := hid (hb1.trans (hbel.mono hb1.size))
  clear hb1 hb2 hb3 hb4 hb5 hc1 hf1 hbel hrA hr2A hgl1 hgl2 hgl3
  rcases hp : pchk me n with _ | _
  · have hW : whenR me n k = (0, 1) := by rw [whenR, hp]; rfl
    have HW := hid hW
    rw [show pE me n = 1 by rw [pE, hp]; rfl]
    clear hp hW
    go_wp2_with fail
    go_loopw [13] (fun v wr => v = .int .i64 0 ∧ wr = w5) (fun _ _ => 0)
    case atStart => exact ⟨rfl, rfl⟩
    case round =>
      obtain ⟨rfl, rfl⟩ := hrel
      go_wp2_with fail
      refine (when_any me n k _).mono ?_
      rw [HW.out]
      rintro e w6 ⟨rfl, rfl⟩
      go_wp2_with fail
      refine (error_any 1 1 _ hgl5).mono ?_
      rintro e w7 ⟨rfl, hb7⟩
      go_wp2_with fail
      go_ret
      exact ⟨rfl, Hbel.out.trans (hb7.mono Hbel.out.size)⟩
  · obtain ⟨h1, h2, h3, h4⟩ := pchk_true.1 hp
    rw [show pE me n = 0 by rw [pE, hp]; rfl]
    have hcase : (k < 0 ∨ (0 ≤ k ∧ n ≤ k)) ∨ (0 ≤ k ∧ k < n ∧ k = me) ∨ (0 ≤ k ∧ k < n ∧ k ≠ me) := by omega
    rcases hcase with hbad | ⟨hk0, hk1, hkm⟩ | ⟨hk0, hk1, hkm⟩
    · have hW : whenR me n k = (0, 1) := by rw [whenR, if_pos hp, if_neg (by omega)]
      have HW := hid hW
      clear hp hW
      rcases hbad with hbad | ⟨hbad, hbad'⟩
      all_goals
        go_wp2_with fail
        go_loopw [13] (fun v wr => v = .int .i64 0 ∧ wr = w5) (fun _ _ => 0)
        case atStart => exact ⟨rfl, rfl⟩
        case round =>
          obtain ⟨rfl, rfl⟩ := hrel
          go_wp2_with fail
          refine (when_any me n k _).mono ?_
          rw [HW.out]
          rintro e w6 ⟨rfl, rfl⟩
          go_wp2_with fail
          refine (error_any 1 1 _ hgl5).mono ?_
          rintro e w7 ⟨rfl, hb7⟩
          go_wp2_with fail
          go_ret
          exact ⟨rfl, Hbel.out.trans (hb7.mono Hbel.out.size)⟩
    · have hW : whenR me n k = (0, 5) := by rw [whenR, if_pos hp, if_pos ⟨hk0, hk1⟩, if_pos hkm]
      have HW := hid hW
      have hkb : (k == me) = true := by rw [hkm]; exact beq_self_eq_true _
      clear hp hW hkm
      go_wp2_with fail
      go_loopw [13] (fun v wr => v = .int .i64 0 ∧ wr = w5) (fun _ _ => 0)
      case atStart => exact ⟨rfl, rfl⟩
      case round =>
        obtain ⟨rfl, rfl⟩ := hrel
        go_wp2_with fail
        refine (when_any me n k _).mono ?_
        rw [HW.out]
        rintro e w6 ⟨rfl, rfl⟩
        go_wp2_with fail
        refine (error_any 5 5 _ hgl5).mono ?_
        rintro e w7 ⟨rfl, hb7⟩
        go_wp2_with fail
        go_ret
        exact ⟨rfl, Hbel.out.trans (hb7.mono Hbel.out.size)⟩
    · have hW : whenR me n k = ((k - me - 1 + n) % n, 0) := by rw [whenR, if_pos hp, if_pos ⟨hk0, hk1⟩, if_neg hkm]
      have hkb : (k == me) = false := by rw [beq_eq_false_iff_ne]; exact hkm
      obtain ⟨⟨hf0, hf1⟩, hf2, hf3⟩ := first_turn h1 h2 h3 h4 hk0 hk1 hkm
      obtain ⟨F, hF⟩ := Int.eq_ofNat_of_zero_le hf0
      rw [hF] at hW hf1 hf2 hf3
      have HW := hid hW
      have Hf2 := hid hf2
      have Hf3 := hid hf3
      clear hp hW hkm hf0 hF hf2 hf3
      go_wp2_with fail
      go_loopw [13] (fun v wr => ∃ j : Nat, j ≤ F ∧ v = .int .i64 j ∧ wr = w5) (fun v _ => F - (intOf v).toNat)
      case atStart => exact ⟨0, Nat.zero_le _, rfl, rfl⟩
      case round =>
        obtain ⟨j, hj, rfl, rfl⟩ := hrel
        have hj0 : (0 : Int) ≤ (j : Int) := by omega
        have hj1 : (j : Int) ≤ 120 := by omega
        by_cases hlt : j < F
        · have hne : (atI me n j == k) = false := by rw [beq_eq_false_iff_ne]; exact Hf3.out j hj0 (by omega)
          go_wp2_with ((go_at_call 13; refine (rtarget_any me n j _ h1 h2 h3 h4 hj0 hj1).mono ?_; rintro e w' ⟨rfl, rfl⟩))
          go_roundw
          case rel => exact ⟨j + 1, by omega, by go_num, by first | rfl | trivial⟩
          case measure => simp [intOf]; omega
        · obtain rfl : j = F := by omega
          have heq : (atI me n j == k) = true := by rw [beq_iff_eq]; exact Hf2.out
          go_wp2_with ((go_at_call 13; refine (rtarget_any me n j _ h1 h2 h3 h4 hj0 hj1).mono ?_; rintro e w' ⟨rfl, rfl⟩))
          refine (when_any me n k _).mono ?_
          rw [HW.out]
          rintro e w6 ⟨rfl, rfl⟩
          go_wp2_with fail
          refine (error_any 0 0 _ hgl5).mono ?_
          rintro e w7 ⟨rfl, hb7⟩
          go_wp2_with fail
          go_ret
          exact ⟨rfl, Hbel.out.trans (hb7.mono Hbel.out.size)⟩

theorem trodAll_five {H : Type} {enc : TypeId × Value → H} {P : Program} {w : World} {base : Nat} {sp : Nat → Bool} {held : Bool} {t t' t'' t3 t4 : TypeId} {args : Array Value} {ds : List (DataW H)} {ps : List MemPlace} (h : DataW.TrodAll enc P w base sp held [t, t', t'', t3, t4] args.toList ds ps) :
    ∃ v v' v'' v3 v4 d d' d'' d3 d4 p p' p'' p3 p4, args = #[v, v', v'', v3, v4] ∧ ds = [d, d', d'', d3, d4] ∧ ps = p ++ (p' ++ (p'' ++ (p3 ++ (p4 ++ [])))) ∧ DataW.Trod enc P w base sp held t v d p ∧ DataW.Trod enc P w base sp held t' v' d' p' ∧ DataW.Trod enc P w base sp held t'' v'' d'' p'' ∧ DataW.Trod enc P w base sp held t3 v3 d3 p3 ∧ DataW.Trod enc P w base sp held t4 v4 d4 p4 := by
  obtain ⟨v, vs, d, ds', p, q, e1, rfl, rfl, h1, h⟩ := trodAll_cons h
  obtain ⟨v', vs', d', ds'', p', q', rfl, rfl, rfl, h2, h⟩ := trodAll_cons h
  obtain ⟨v'', vs'', d'', ds3, p'', q'', rfl, rfl, rfl, h3, h⟩ := trodAll_cons h
  obtain ⟨v3, vs3, d3, ds4, p3, q3, rfl, rfl, rfl, h4, h⟩ := trodAll_cons h
  obtain ⟨v4, vs4, d4, ds5, p4, q4, rfl, rfl, rfl, h5, h⟩ := trodAll_cons h
  obtain ⟨rfl, rfl, rfl⟩ := trodAll_nil h
  refine ⟨v, v', v'', v3, v4, d, d', d'', d3, d4, p, p', p'', p3, p4, ?_, rfl, rfl, h1, h2, h3, h4, h5⟩
  exact Array.toList_inj.1 (by simpa using e1)

set_option maxRecDepth 100000 in
theorem probeTells_walk : LawWalk Tryd.prog 4 Tryd.f4 Gl := by
  intro W base args H enc ds p hval hA hgl
  rw [Tryd.params4] at hA hval
  obtain ⟨v0, v1, v2, v3, v4, d0, d1, d2, d3, d4, p0, p1, p2, p3, p4, rfl, rfl, rfl, h0, h1, h2, h3, h4⟩ := trodAll_five hA
  obtain ⟨n0, rfl, _⟩ := arg_int Tryd.underlying3 (hval 0 3 v0 rfl rfl) h0
  obtain ⟨n1, rfl, _⟩ := arg_int Tryd.underlying3 (hval 1 3 v1 rfl rfl) h1
  obtain ⟨n2, rfl, _⟩ := arg_int Tryd.underlying3 (hval 2 3 v2 rfl rfl) h2
  obtain ⟨n3, rfl, _⟩ := arg_int Tryd.underlying3 (hval 3 3 v3 rfl rfl) h3
  obtain ⟨n4, rfl, _⟩ := arg_int Tryd.underlying3 (hval 4 3 v4 rfl rfl) h4
  exact probeTells_any n0 n1 n2 n3 n4 W hgl

set_option maxRecDepth 100000 in
theorem probeTells_lifted (os : Os) (started : os.Started) (H : Type) (enc : TypeId × Value → H) :
    ReturnsInHanded {} Tryd.checked os 4 .any (fun w args => (Rows.probeTellsSpec.pre enc Tryd.checked.prog Tryd.f4 [] false w args ∧ laidMetH Tryd.prog theLaid w) ∧ sizedMet enc Tryd.checked.prog Tryd.f4 (OpenSpec.ofChange Rows.probeTellsSpec) false w args) (Rows.probeTellsSpec.post enc Tryd.checked.prog Tryd.f4 false true false false) :=
  laid_lifted (C := Tryd.checked) theLaid (fun _ h => handle_of_laid h) [] Tryd.own started (by kernel_rfl) Tryd.func4 Tryd.laidOut (by kernel_rfl) rfl Tryd.underlying4 rfl (fun ds h => by match ds, h with | [_, _, _, _, _], _ => rfl)
    (ChangeSpec.witness_at (enc := enc) (C := Tryd.checked) (os := os) (X := fun w _ => laidMetH Tryd.prog theLaid w) false (laidWorld os) #[.int .i64 0, .int .i64 0, .int .i64 0, .int .i64 0, .int .i64 0] 8 rfl (by kernel_rfl) (by kernel_rfl) (by kernel_rfl) (by kernel_rfl) (by kernel_rfl) (laidWorld_met os _)) probeTells_walk

theorem probeTells_row : Rows.ProbeTellsSaid :=
  OpenClaim.holds_of_wide 4 Tryd.f4 rfl rfl rfl rfl rfl rfl rfl ⟨rfl, rfl, rfl, rfl, rfl⟩ rfl rfl rfl rfl rfl (by kernel_rfl) Tryd.func4 (by kernel_rfl)
    (of_decide_eq_true (by kernel_rfl)) (by unfold Func.isWrapper; rw [if_neg (of_decide_eq_false (by kernel_rfl))]; exact ⟨rfl, rfl⟩)
    (fun os started H enc _ => probeTells_lifted os started H enc)

theorem probeTells_holds : Rows.ProbeTellsCardSaid :=
  Claim7.holds_tied_plain_at .later [] [.handle] true _ true
    probeTells_row (fun _ h => by cases h) (by kernel_rfl) (fun _ h => by cases h) probeTells_row_tie rfl ⟨rfl, rfl⟩ (by kernel_rfl) rfl
    (fun f fn hf hfn => by
      obtain rfl : f = 4 := Option.some.inj ((show Tryd.prog.funcNamed "beaconmere/merelaw2.ProbeTells" = some 4 by kernel_rfl).symm.trans hf) |>.symm
      obtain rfl : fn = Tryd.f4 := (Option.some.inj (Tryd.func4.symm.trans hfn)).symm
      refine ⟨by kernel_rfl, fun j t ht => ?_⟩
      have hall : Tryd.f4.params.toList.all (fun t => !Tryd.prog.wantsStandIn t) = true := by kernel_rfl
      have hm : t ∈ Tryd.f4.params.toList := by
        obtain ⟨hj, hje⟩ := Array.getElem?_eq_some_iff.1 ht
        rw [← hje]
        exact Array.mem_toList_iff.2 (Array.getElem_mem hj)
      have := List.all_eq_true.1 hall t hm
      exact (show Tryd.prog.wantsStandIn t = false by simpa using this))
    (by kernel_rfl)

end Go.Proofs.YtkokohlkjlgdkaaDoor
