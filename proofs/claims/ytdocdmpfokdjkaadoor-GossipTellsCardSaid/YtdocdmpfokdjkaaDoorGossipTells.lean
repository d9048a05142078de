/-
  PROVED HERE: merelaw2.GossipTells returns true: what each knows behind any calls, whether all know all, and the plan are as the document says. CONDITIONS: errors.errorType as the program's text lays it (tied by the card).
-/
import Derived.Test.YtdocdmpfokdjkaaDoorGPlan
import Derived.Test.YtdocdmpfokdjkaaDoorGTLaw
import Derived.Test.YtdocdmpfokdjkaaDoorSameCalls
import Derived.Test.YtdocdmpfokdjkaaDoorDoor
import Derived.Deep.CutBlock
import Derived.Deep.DeepCutAuto
namespace Go.Proofs.YtdocdmpfokdjkaaDoor
open Go.RowKit
open Go.ChangeShapes Go.WideShapes Go.ChangeAt

set_option maxHeartbeats 16000000 in
set_option maxRecDepth 100000 in
theorem gossipTells_any (n : Int) (s : SlV (SlV Int)) (w : World) (hs : IntssAt w s) (hgl : Gl w) :
    Calls Tryd.prog 3 #[.int .i64 n, .slice s.A s.xs.length s.c] w fun e w' => e = .returned (.bool true) ∧ Below w.heap.size w w' := by
  have hg0 := hgl.lt
  have hlen := hs.len
  unfold maxLen at hlen
  have Hs := hid (fun W (hW : Below w.heap.size w W) => hs.stays hW)
  have Hee := hid (fun (e0 : Int) (W : World) (hW : Below w.heap.size w W) => error_any e0 e0 W (hgl.below hW hg0))
  have HC := hid (rcalls_any n s w hs)
  obtain ⟨c, hc⟩ : ∃ c, chkG n s.xs = c := ⟨_, rfl⟩
  rw [hc] at HC
  have Hc := hid hc
  clear hs hc
  go_enter Tryd.func3, Tryd.ntmps3
  go_wp2_with fail
  refine HC.out.mono ?_
  rintro e w1 ⟨rfl, hb1⟩
  have Hb1 := hid hb1
  have hz1 := hb1.size
  clear hb1 HC
  go_upto_if 27 with fail
  go_cut [6, 7] (fun v d wx => ∃ r : SlV Int, v = .slice r.A r.xs.length r.c ∧ d = .bool (doneB n s.xs) ∧ r.xs = playR n s.xs ∧ IntsAt wx r ∧ Below w.heap.size w wx)
  case first =>
    as_aux_lemma =>
    by_cases h0 : c = 0
    · subst h0
      have hch := Hc.out
      obtain ⟨⟨h1, h6⟩, -, hok⟩ := chkG_ok hch
      obtain ⟨N, rfl⟩ := Int.eq_ofNat_of_zero_le (show 0 ≤ n by omega)
      have HPl := hid (rplay_any N s w1 (Hs.out _ Hb1.out) hch)
      have HBits := hid (doneB_bits hch)
      have HpR := hid (playR_nat' hch)
      have hsm := gPlay_smallN s.xs (initN N) (initN_smallN N) (initN_length N) hok
      have hLl : (gPlay (initN N) s.xs).length = N := by rw [gPlay_length, initN_length]
      have hN : N ≤ 6 := by omega
      generalize gPlay (initN N) s.xs = L at *
      generalize doneB N s.xs = dn at *
      generalize playR N s.xs = PR at *
      have Hsm := hid hsm
      have HLl := hid hLl
      clear hch hok hsm hLl
      go_wp2_with fail
      refine HPl.out.mono ?_
      rintro e w2 ⟨cs, rfl, hs36, hcs, hone, hb2⟩
      have Hb2 := hid (Below.step Hb1.out hb2 hz1)
      have hz2 := Hb2.out.size
      have HZ := hid (Blk.new w2 26 #[.bool false, .bool false, .bool false, .bool false, .bool false, .bool false, .bool false, .bool false, .bool false, .bool false, .bool false, .bool false, .bool false, .bool false, .bool false, .bool false, .bool false, .bool false, .bool false, .bool false, .bool false, .bool false, .bool false, .bool false, .bool false, .bool false, .bool false, .bool false, .bool false, .bool false, .bool false, .bool false, .bool false, .bool false, .bool false, .bool false])
      obtain ⟨cs', hR', hs', he', -⟩ := Blk.setCells cs.toList 0 _ _ HZ.out (by rw [Array.length_toList, hs36]; decide)
      have HR := hid hR'
      have HCell := hid (show ∀ a b, a < N → b < N → cs'[a * 6 + b]? = some (.bool (bitK L a b)) from fun a b ha hb => by
        have := he' (a * 6 + b) (by rw [Array.length_toList, hs36]; omega)
        rw [Nat.zero_add, Array.getElem?_toList] at this
        rw [this, hcs a b ha hb])
      have HbR := hid (show Below w.heap.size w ((w2.alloc (.cells #[.bool false, .bool false, .bool false, .bool false, .bool false, .bool false, .bool false, .bool false, .bool false, .bool false, .bool false, .bool false, .bool false, .bool false, .bool false, .bool false, .bool false, .bool false, .bool false, .bool false, .bool false, .bool false, .bool false, .bool false, .bool false, .bool false, .bool false, .bool false, .bool false, .bool false, .bool false, .bool false, .bool false, .bool false, .bool false, .bool false] 26)).setCells w2.heap.size 0 cs.toList) from
        (Hb2.out.alloc hz2 _).trans ((Fr.setCells w2.heap.size cs.toList 0 _ (Fr.refl (fun k => k = w2.heap.size) _) (.inl rfl)).below0 (by simp; omega) (fun i hi => by omega)))
      clear hR' he' hs' hcs hb2 HPl
      go_wp2_with (refine at_storeK rfl ?_; refine stK rfl _ _ rfl w2.heap.size rfl cs _ rfl hs36 hone HZ.out rfl ?_)
      obtain ⟨w3, hw3⟩ : ∃ W : World, W = (w2.alloc (.cells #[.bool false, .bool false, .bool false, .bool false, .bool false, .bool false, .bool false, .bool false, .bool false, .bool false, .bool false, .bool false, .bool false, .bool false, .bool false, .bool false, .bool false, .bool false, .bool false, .bool false, .bool false, .bool false, .bool false, .bool false, .bool false, .bool false, .bool false, .bool false, .bool false, .bool false, .bool false, .bool false, .bool false, .bool false, .bool false, .bool false] 26)).setCells w2.heap.size 0 cs.toList := ⟨_, rfl⟩
      rw [← hw3] at HR HbR ⊢
      have hl3 := HR.out.lt
      clear hw3
      go_loopw [6, 7, 9] (fun v d i wr => ∃ (k : Nat) (b : Bool), k ≤ N ∧ i = .int .i64 k ∧ d = .bool b ∧ (b = true ↔ ∀ a, a < k → ∀ j, j < N → bitK L a j = true) ∧ Ow cellI 1 w.heap.size 3 wr v (castL (L.take k)) ∧ Blk wr w2.heap.size 26 cs' ∧ Below w.heap.size w wr ∧ (∀ g, foot v = some g → g ≠ w2.heap.size)) (fun _ _ i _ => N - (intOf i).toNat)
      case atStart => exact ⟨0, true, Nat.zero_le _, rfl, rfl, ⟨fun _ a ha => absurd ha (by omega), fun _ => rfl⟩, Ow.nil _ _ _ _ _, HR.out, HbR.out, fun g hg => by cases hg⟩
      case round =>
        obtain ⟨k, b, hk, rfl, rfl, hbi, hO, hB, hbw, hft⟩ := hrel
        have HO := hid hO
        have HB := hid hB
        have Hbw := hid hbw
        have Hbi := hid hbi
        have hzw := hbw.size
        have hlB := hB.lt
        clear hB hbw hbi
        by_cases hlt : k < N
        · have hk6 : (k : Int) < 6 := by omega
          have hkN : (k : Int) < (N : Int) := by omega
          have hk0 : (0 : Int) ≤ (k : Int) := by omega
          have hP := Hsm.out k
          have Htk := hid (show castL (L.take (k + 1)) = castL (L.take k) ++ [((L.getD k 0 : Nat) : Int)] from by
            rw [take_snocD 0 (by rw [HLl.out]; exact hlt)]; simp [castL])
          have hN64 : 2 ^ N ≤ 64 := Nat.pow_le_pow_right (n := 2) (by omega) hN
          obtain ⟨P, hPe⟩ : ∃ P, L.getD k 0 = P := ⟨_, rfl⟩
          rw [hPe] at hP Htk
          have Hbit := hid (fun j => show bitK L k j = P.testBit j from by unfold bitK; rw [hPe])
          have Hlen := hid (show (castL (L.take k)).length = k from by simp [castL, HLl.out]; omega)
          have HPm := hid (show P % 2 ^ N = P from Nat.mod_eq_of_lt hP)
          have Hrow := hid (show ∀ c : Bool, (c = true ↔ b = true ∧ ∀ i, i < N → P.testBit i = true) → (c = true ↔ ∀ a, a < k + 1 → ∀ j, j < N → bitK L a j = true) from fun c hc => by
            rw [hc, Hbi.out]
            constructor
            · rintro ⟨h1, h2⟩ a ha j hj
              rcases (show a < k ∨ a = k by omega) with h | rfl
              · exact h1 a h j hj
              · rw [Hbit.out]; exact h2 j hj
            · intro h
              exact ⟨fun a ha j hj => h a (by omega) j hj, fun j hj => by rw [← Hbit.out]; exact h k (by omega) j hj⟩)
          clear hPe hO
          go_wp2_with fail
          obtain ⟨w4, rfl⟩ : ∃ w4 : World, w4 = wr := ⟨_, rfl⟩
          go_loopw [7, 10, 11, 12] (fun d kk pp j wk => ∃ (m : Nat) (b' : Bool), m ≤ N ∧ j = .int .i64 m ∧ kk = .int .i64 (P % 2 ^ m : Nat) ∧ pp = .int .i64 (2 ^ m : Nat) ∧ d = .bool b' ∧ (b' = true ↔ b = true ∧ ∀ i, i < m → P.testBit i = true) ∧ wk = w4) (fun _ _ _ j _ => N - (intOf j).toNat)
          case atStart => exact ⟨0, b, Nat.zero_le _, rfl, by simp [Nat.mod_one], rfl, rfl, by simp, rfl⟩
          case round =>
            obtain ⟨m, b', hm, rfl, rfl, rfl, rfl, hbm, hwk⟩ := hrel
            obtain rfl : w4 = wr := hwk.symm
            have Hbm := hid hbm
            clear hbm
            by_cases hlt2 : m < N
            · have hm6 : (m : Int) < 6 := by omega
              have hmN : (m : Int) < (N : Int) := by omega
              have hm0 : (0 : Int) ≤ (m : Int) := by omega
              have hcell : w4.cell? ⟨w2.heap.size, k * 6 + m, none⟩ = some (.bool (P.testBit m)) := (HB.out.cell _).trans ((HCell.out k m hlt hlt2).trans (by rw [Hbit.out]))
              have hp32 : 2 ^ m ≤ 32 := Nat.pow_le_pow_right (n := 2) (by omega) (show m ≤ 5 by omega)
              have hxp : P % 2 ^ m < 2 ^ m := Nat.mod_lt _ (Nat.two_pow_pos m)
              have Hmod := hid (mod_bit P m)
              have Hpw := hid (show 2 ^ (m + 1) = 2 ^ m * 2 from Nat.pow_succ 2 m)
              have Hstep := hid (show ∀ c : Bool, (c = true ↔ b' = true ∧ P.testBit m = true) → (c = true ↔ b = true ∧ ∀ i, i < m + 1 → P.testBit i = true) from fun c hc => by
                rw [hc, Hbm.out]
                constructor
                · rintro ⟨⟨h1, h2⟩, h3⟩
                  refine ⟨h1, fun i hi => ?_⟩
                  rcases (show i < m ∨ i = m by omega) with h | rfl
                  · exact h2 i h
                  · exact h3
                · rintro ⟨h1, h2⟩
                  exact ⟨⟨h1, fun i hi => h2 i (by omega)⟩, h2 m (by omega)⟩)
              obtain ⟨u, hu⟩ : ∃ u, P.testBit m = u := ⟨_, rfl⟩
              rw [hu] at hcell
              have Hu := hid hu
              have hP1 : P % 2 ^ (m + 1) = P % 2 ^ m + (if u = true then 2 ^ m else 0) := by rw [Hmod.out, hu]
              have HP1 := hid hP1
              have hPw1 := Hpw.out
              clear hu hP1 Hmod
              generalize hxe : P % 2 ^ m = x at *
              generalize hye : 2 ^ m = y at *
              have HPw := hid hPw1
              clear hxe hye hPw1 Hpw
              rcases u with _ | _
              · go_wp2_with fail
                go_roundw
                case rel => exact ⟨m + 1, false, by omega, by go_num, by rw [HP1.out]; simp, by rw [HPw.out]; congr 1; omega, rfl, Hstep.out false (by rw [Hu.out]; simp), by first | rfl | trivial⟩
                case measure => simp [intOf]; omega
              · go_wp2_with fail
                go_roundw
                case rel => exact ⟨m + 1, b', by omega, by go_num, by rw [HP1.out]; simp, by rw [HPw.out]; congr 1; omega, rfl, Hstep.out b' (by rw [Hu.out]; simp), by first | rfl | trivial⟩
                case measure => simp [intOf]; omega
            · obtain rfl : m = N := by omega
              rw [HPm.out]
              have hlt7 : (castL (L.take k)).length ≤ 100000000 := by rw [Hlen.out]; omega
              have HB4 := HB
              go_wp2_with (at_builtin; refine appI _ w.heap.size _ (castL (L.take k)) (P : Int) HO.out rfl _ _ rfl rfl rfl rfl hlt7 hzw ?_)
              intro v8 w8 h8 f8 o8
              obtain ⟨A8, c8, hv8, -, -, -⟩ := h8.form
              have HO8 := hid (show Ow cellI 1 w.heap.size 3 w8 v8 (castL (L.take (k + 1))) from by rw [Htk.out]; exact h8)
              have HB8 := hid (HB.out.fr f8 (fun e => hft _ e.symm rfl))
              have Hb8 := hid (Hbw.out.trans (f8.below0 hzw (fun i hi => HO.out.ge _ hi)))
              have Hf8 := hid (show ∀ g, foot v8 = some g → g ≠ w2.heap.size from fun g hg => by
                rcases o8 with h | h
                · rw [h] at hg; exact hft g hg
                · rw [h] at hg; injection hg with hg; omega)
              clear h8 f8 o8
              go_wp2_with fail
              go_roundw
              case rel => exact ⟨k + 1, b', by omega, by go_num, rfl, Hrow.out b' Hbm.out, HO8.out, HB8.out, Hb8.out, Hf8.out⟩
              case measure => simp [intOf]; omega
        · obtain rfl : k = N := by omega
          have hLk : L.take k = L := by rw [← HLl.out, List.take_length]
          rw [hLk] at HO hO
          obtain ⟨r, rfl, hrx, hr, -, -⟩ := IntsAt.of_ow hO
          have hdn : dn = b := by
            rw [Bool.eq_iff_iff]
            exact ⟨fun h => Hbi.out.2 (HBits.out.1 h), fun h => HBits.out.2 (Hbi.out.1 h)⟩
          have Hdn := hid hdn
          have Hrx := hid hrx
          clear hdn hrx hO
          go_wp2_with fail
          go_meet
          exact ⟨r, rfl, by rw [Hdn.out], by rw [Hrx.out, HpR.out], hr, Hbw.out⟩
    · have HpR : Hid (playR n s.xs = []) := hid (by rw [playR, if_neg (by rw [Hc.out]; exact h0)])
      have HdB : Hid (doneB n s.xs = false) := hid (by rw [doneB, Hc.out, decide_eq_false h0, Bool.false_and])
      have hc0 : (c == 0) = false := by rw [beq_eq_false_iff_ne]; exact h0
      clear h0
      go_wp2_with fail
      go_meet
      exact ⟨⟨none, 0, []⟩, rfl, by rw [HdB.out, hc0], by rw [HpR.out], IntsAt.bare _ _ _, Hb1.out⟩
  case rest =>
  obtain ⟨r, rfl, rfl, hrx, hr, hb2⟩ := hcut
  obtain ⟨w2, rfl⟩ : ∃ w2 : World, w2 = wc := ⟨_, rfl⟩
  have Hb2 := hid hb2
  have hz2 := hb2.size
  have Hr := hid (fun W (hW : Below w2.heap.size w2 W) => hr.stays0 hW)
  have Hrx := hid hrx
  have HP := hid (playR_any n s w2 (Hs.out _ hb2))
  rw [Hc.out] at HP
  have HD := hid (fun W (hW : Below w.heap.size w W) => done_any n s W (Hs.out _ hW))
  rw [Hc.out] at HD
  generalize doneB n s.xs = d at *
  clear hb2 hr hrx
  go_wp2_with fail
  refine HP.out.mono ?_
  rintro e w3 ⟨p, rfl, hpx, hp, hb3⟩
  have Hb3 := hid (Below.step Hb2.out hb3 hz2)
  have hz3 := Hb3.out.size
  have HI := hid (fun W (hW : Below w3.heap.size w3 W) => ints_any p r W (hp.stays0 hW) (Hr.out _ (hb3.trans (hW.mono hb3.size))))
  rw [show sameI p.xs r.xs = true from sameI_true.2 (by rw [hpx, Hrx.out])] at HI
  clear hpx hp hb3 HP
  go_wp2_with fail
  refine (Hee.out c _ Hb3.out).mono ?_
  rw [beq_self_eq_true]
  rintro e w4 ⟨rfl, hb4⟩
  have Hb4 := hid (Below.step Hb3.out hb4 hz3)
  have hz4 := Hb4.out.size
  have HI4 := hid (HI.out _ hb4)
  clear hb4 HI
  go_wp2_with fail
  refine HI4.out.mono ?_
  rintro e w5 ⟨rfl, hb5⟩
  have Hb5 := hid (Below.step Hb4.out hb5 hz4)
  have hz5 := Hb5.out.size
  clear hb5 HI4
  go_wp2_with fail
  refine (HD.out _ Hb5.out).mono ?_
  rintro e w6 ⟨rfl, hb6⟩
  have Hb6 := hid (Below.step Hb5.out hb6 hz5)
  have hz6 := Hb6.out.size
  clear hb6 HD
  go_wp2_with fail
  refine (Hee.out c _ Hb6.out).mono ?_
  rw [beq_self_eq_true]
  rintro e w7 ⟨rfl, hb7⟩
  have Hb7 := hid (Below.step Hb6.out hb7 hz6)
  have hz7 := Hb7.out.size
  clear hb7
  have hdd : (d == d) = true := beq_self_eq_true d
  rcases hn : nodesB n with _ | _
  · have HPl := hid (plan_bad n hn w7)
    have HL := hid (show IntssAt w7 ⟨none, 0, []⟩ from ⟨(fun h => by cases h), (fun i hi => by cases hi), by unfold maxLen; decide⟩)
    rcases nodesB_false.1 hn with h1 | h1
    all_goals
      clear hn
      go_wp2_with fail
      refine HPl.out.mono ?_
      rintro e w9 ⟨rfl, hb9⟩
      have Hb9 := hid (Below.step Hb7.out hb9 hz7)
      have hz9 := Hb9.out.size
      have HCs := hid (fun W (hW : Below w9.heap.size w9 W) => calls_any ⟨none, 0, []⟩ ⟨none, 0, []⟩ W ((HL.out.stays hb9).stays hW) ((HL.out.stays hb9).stays hW))
      have hq : sameCs ([] : List (SlV Int)) [] = true := rfl
      simp only [hq] at HCs
      clear hb9 hq
      go_wp2_with fail
      refine (Hee.out 1 _ Hb9.out).mono ?_
      rw [beq_self_eq_true]
      rintro e w10 ⟨rfl, hb10⟩
      have HC10 := hid (HCs.out _ hb10)
      have Hb10 := hid (Below.step Hb9.out hb10 hz9)
      have hz10 := Hb10.out.size
      clear hb10 HCs
      go_wp2_with fail
      refine HC10.out.mono ?_
      rintro e w11 ⟨rfl, hb11⟩
      have hb12 := Below.step Hb10.out hb11 hz10
      clear hb11 HC10
      go_wp2_with fail
      go_ret
      exact ⟨rfl, hb12⟩
  · obtain ⟨h1, h6⟩ := nodesB_true.1 hn
    clear hn
    rcases (show n = 1 ∨ n = 2 ∨ n = 3 ∨ n = 4 ∨ n = 5 ∨ n = 6 by omega) with rfl | rfl | rfl | rfl | rfl | rfl
    · have HPl := hid (plan_any 1 (by omega) (by omega) (w7))
      have HL := hid (show IntssAt w7 ⟨none, 0, []⟩ from ⟨(fun h => by cases h), (fun i hi => by cases hi), by unfold maxLen; decide⟩)
      have Hb8 := Hb7
      go_wp2_with fail
      refine HPl.out.mono ?_
      rintro e w9 ⟨q, rfl, hq, hqx, hb9⟩
      have Hb9 := hid (Below.step Hb8.out hb9 Hb8.out.size)
      have hz9 := Hb9.out.size
      have HCs := hid (fun W (hW : Below w9.heap.size w9 W) => calls_any q _ W (hq.stays hW) ((HL.out.stays hb9).stays hW))
      have Hq := hid (show sameCs q.xs [] = true from by
        unfold sameCs
        rw [decide_eq_true_eq, hqx]
        try rfl)
      simp only [Hq.out] at HCs
      have hE := Hee.out 0 _ Hb9.out
      rw [errV_zero] at hE
      have HE := hid hE
      clear hq hqx hb9 HPl hE
      go_wp2_with fail
      refine HE.out.mono ?_
      rw [beq_self_eq_true]
      rintro e w10 ⟨rfl, hb10⟩
      have HC10 := hid (HCs.out _ hb10)
      have Hb10 := hid (Below.step Hb9.out hb10 hz9)
      have hz10 := Hb10.out.size
      clear hb10 HCs HE
      go_wp2_with fail
      refine HC10.out.mono ?_
      rintro e w11 ⟨rfl, hb11⟩
      have hb12 := Below.step Hb10.out hb11 hz10
      clear hb11 HC10
      go_wp2_with fail
      go_ret
      exact ⟨rfl, hb12⟩
    · have HPl := hid (plan_any 2 (by omega) (by omega) (litR w7 [[0, 1]]))
      have HL := hid (litR_at [[0, 1]] w7 1 (by unfold maxLen; decide) (by unfold maxLen; decide))
      have Hb8 := hid (Below.step Hb7.out (litR_below [[0, 1]] w7) hz7)
      go_wp2_with fail
      refine HPl.out.mono ?_
      rintro e w9 ⟨q, rfl, hq, hqx, hb9⟩
      have Hb9 := hid (Below.step Hb8.out hb9 Hb8.out.size)
      have hz9 := Hb9.out.size
      have HCs := hid (fun W (hW : Below w9.heap.size w9 W) => calls_any q _ W (hq.stays hW) ((HL.out.stays hb9).stays hW))
      have Hq := hid (show sameCs q.xs (litS w7.heap.size [[0, 1]]) = true from by
        unfold sameCs
        rw [decide_eq_true_eq, hqx, litS_xs]
        try rfl)
      simp only [Hq.out] at HCs
      have hE := Hee.out 0 _ Hb9.out
      rw [errV_zero] at hE
      have HE := hid hE
      clear hq hqx hb9 HPl hE
      go_wp2_with fail
      refine HE.out.mono ?_
      rw [beq_self_eq_true]
      rintro e w10 ⟨rfl, hb10⟩
      have HC10 := hid (HCs.out _ hb10)
      have Hb10 := hid (Below.step Hb9.out hb10 hz9)
      have hz10 := Hb10.out.size
      clear hb10 HCs HE
      go_wp2_with fail
      refine HC10.out.mono ?_
      rintro e w11 ⟨rfl, hb11⟩
      have hb12 := Below.step Hb10.out hb11 hz10
      clear hb11 HC10
      go_wp2_with fail
      go_ret
      exact ⟨rfl, hb12⟩
    · have HPl := hid (plan_any 3 (by omega) (by omega) (litR w7 [[0, 1], [0, 2], [0, 1]]))
      have HL := hid (litR_at [[0, 1], [0, 2], [0, 1]] w7 3 (by unfold maxLen; decide) (by unfold maxLen; decide))
      have Hb8 := hid (Below.step Hb7.out (litR_below [[0, 1], [0, 2], [0, 1]] w7) hz7)
      go_wp2_with fail
      refine HPl.out.mono ?_
      rintro e w9 ⟨q, rfl, hq, hqx, hb9⟩
      have Hb9 := hid (Below.step Hb8.out hb9 Hb8.out.size)
      have hz9 := Hb9.out.size
      have HCs := hid (fun W (hW : Below w9.heap.size w9 W) => calls_any q _ W (hq.stays hW) ((HL.out.stays hb9).stays hW))
      have Hq := hid (show sameCs q.xs (litS w7.heap.size [[0, 1], [0, 2], [0, 1]]) = true from by
        unfold sameCs
        rw [decide_eq_true_eq, hqx, litS_xs]
        try rfl)
      simp only [Hq.out] at HCs
      have hE := Hee.out 0 _ Hb9.out
      rw [errV_zero] at hE
      have HE := hid hE
      clear hq hqx hb9 HPl hE
      go_wp2_with fail
      refine HE.out.mono ?_
      rw [beq_self_eq_true]
      rintro e w10 ⟨rfl, hb10⟩
      have HC10 := hid (HCs.out _ hb10)
      have Hb10 := hid (Below.step Hb9.out hb10 hz9)
      have hz10 := Hb10.out.size
      clear hb10 HCs HE
      go_wp2_with fail
      refine HC10.out.mono ?_
      rintro e w11 ⟨rfl, hb11⟩
      have hb12 := Below.step Hb10.out hb11 hz10
      clear hb11 HC10
      go_wp2_with fail
      go_ret
      exact ⟨rfl, hb12⟩
    · have HPl := hid (plan_any 4 (by omega) (by omega) (litR w7 [[0, 1], [2, 3], [0, 2], [1, 3]]))
      have HL := hid (litR_at [[0, 1], [2, 3], [0, 2], [1, 3]] w7 4 (by unfold maxLen; decide) (by unfold maxLen; decide))
      have Hb8 := hid (Below.step Hb7.out (litR_below [[0, 1], [2, 3], [0, 2], [1, 3]] w7) hz7)
      go_wp2_with fail
      refine HPl.out.mono ?_
      rintro e w9 ⟨q, rfl, hq, hqx, hb9⟩
      have Hb9 := hid (Below.step Hb8.out hb9 Hb8.out.size)
      have hz9 := Hb9.out.size
      have HCs := hid (fun W (hW : Below w9.heap.size w9 W) => calls_any q _ W (hq.stays hW) ((HL.out.stays hb9).stays hW))
      have Hq := hid (show sameCs q.xs (litS w7.heap.size [[0, 1], [2, 3], [0, 2], [1, 3]]) = true from by
        unfold sameCs
        rw [decide_eq_true_eq, hqx, litS_xs]
        try rfl)
      simp only [Hq.out] at HCs
      have hE := Hee.out 0 _ Hb9.out
      rw [errV_zero] at hE
      have HE := hid hE
      clear hq hqx hb9 HPl hE
      go_wp2_with fail
      refine HE.out.mono ?_
      rw [beq_self_eq_true]
      rintro e w10 ⟨rfl, hb10⟩
      have HC10 := hid (HCs.out _ hb10)
      have Hb10 := hid (Below.step Hb9.out hb10 hz9)
      have hz10 := Hb10.out.size
      clear hb10 HCs HE
      go_wp2_with fail
      refine HC10.out.mono ?_
      rintro e w11 ⟨rfl, hb11⟩
      have hb12 := Below.step Hb10.out hb11 hz10
      clear hb11 HC10
      go_wp2_with fail
      go_ret
      exact ⟨rfl, hb12⟩
    · have HPl := hid (plan_any 5 (by omega) (by omega) (litR w7 [[4, 0], [0, 1], [2, 3], [0, 2], [1, 3], [4, 0]]))
      have HL := hid (litR_at [[4, 0], [0, 1], [2, 3], [0, 2], [1, 3], [4, 0]] w7 6 (by unfold maxLen; decide) (by unfold maxLen; decide))
      have Hb8 := hid (Below.step Hb7.out (litR_below [[4, 0], [0, 1], [2, 3], [0, 2], [1, 3], [4, 0]] w7) hz7)
      go_wp2_with fail
      refine HPl.out.mono ?_
      rintro e w9 ⟨q, rfl, hq, hqx, hb9⟩
      have Hb9 := hid (Below.step Hb8.out hb9 Hb8.out.size)
      have hz9 := Hb9.out.size
      have HCs := hid (fun W (hW : Below w9.heap.size w9 W) => calls_any q _ W (hq.stays hW) ((HL.out.stays hb9).stays hW))
      have Hq := hid (show sameCs q.xs (litS w7.heap.size [[4, 0], [0, 1], [2, 3], [0, 2], [1, 3], [4, 0]]) = true from by
        unfold sameCs
        rw [decide_eq_true_eq, hqx, litS_xs]
        try rfl)
      simp only [Hq.out] at HCs
      have hE := Hee.out 0 _ Hb9.out
      rw [errV_zero] at hE
      have HE := hid hE
      clear hq hqx hb9 HPl hE
      go_wp2_with fail
      refine HE.out.mono ?_
      rw [beq_self_eq_true]
      rintro e w10 ⟨rfl, hb10⟩
      have HC10 := hid (HCs.out _ hb10)
      have Hb10 := hid (Below.step Hb9.out hb10 hz9)
      have hz10 := Hb10.out.size
      clear hb10 HCs HE
      go_wp2_with fail
      refine HC10.out.mono ?_
      rintro e w11 ⟨rfl, hb11⟩
      have hb12 := Below.step Hb10.out hb11 hz10
      clear hb11 HC10
      go_wp2_with fail
      go_ret
      exact ⟨rfl, hb12⟩
    · have HPl := hid (plan_any 6 (by omega) (by omega) (litR w7 [[4, 0], [5, 0], [0, 1], [2, 3], [0, 2], [1, 3], [4, 0], [5, 0]]))
      have HL := hid (litR_at [[4, 0], [5, 0], [0, 1], [2, 3], [0, 2], [1, 3], [4, 0], [5, 0]] w7 8 (by unfold maxLen; decide) (by unfold maxLen; decide))
      have Hb8 := hid (Below.step Hb7.out (litR_below [[4, 0], [5, 0], [0, 1], [2, 3], [0, 2], [1, 3], [4, 0], [5, 0]] w7) hz7)
      go_wp2_with fail
      refine HPl.out.mono ?_
      rintro e w9 ⟨q, rfl, hq, hqx, hb9⟩
      have Hb9 := hid (Below.step Hb8.out hb9 Hb8.out.size)
      have hz9 := Hb9.out.size
      have HCs := hid (fun W (hW : Below w9.heap.size w9 W) => calls_any q _ W (hq.stays hW) ((HL.out.stays hb9).stays hW))
      have Hq := hid (show sameCs q.xs (litS w7.heap.size [[4, 0], [5, 0], [0, 1], [2, 3], [0, 2], [1, 3], [4, 0], [5, 0]]) = true from by
        unfold sameCs
        rw [decide_eq_true_eq, hqx, litS_xs]
        try rfl)
      simp only [Hq.out] at HCs
      have hE := Hee.out 0 _ Hb9.out
      rw [errV_zero] at hE
      have HE := hid hE
      clear hq hqx hb9 HPl hE
      go_wp2_with fail
      refine HE.out.mono ?_
      rw [beq_self_eq_true]
      rintro e w10 ⟨rfl, hb10⟩
      have HC10 := hid (HCs.out _ hb10)
      have Hb10 := hid (Below.step Hb9.out hb10 hz9)
      have hz10 := Hb10.out.size
      clear hb10 HCs HE
      go_wp2_with fail
      refine HC10.out.mono ?_
      rintro e w11 ⟨rfl, hb11⟩
      have hb12 := Below.step Hb10.out hb11 hz10
      clear hb11 HC10
      go_wp2_with fail
      go_ret
      exact ⟨rfl, hb12⟩

set_option maxRecDepth 100000 in
theorem gossipTells_walk : LawWalk Tryd.prog 3 Tryd.f3 Gl := by
  intro W base args H enc ds p hval hA hgl
  rw [Tryd.params3] at hA hval
  obtain ⟨v0, v1, d0, d1, p0, p1, rfl, rfl, rfl, h0, h1⟩ := trodAll_two hA
  obtain ⟨n, rfl, _⟩ := arg_int Tryd.underlying3 (hval 0 3 v0 rfl rfl) h0
  obtain ⟨st, rfl, hst⟩ := arg_slice Tryd.underlying22 codecInts (pos_of_eq Tryd.cellsInts (by decide)) (hval 1 22 v1 rfl rfl) h1
  exact gossipTells_any n st W (intssAt_of hst) hgl

set_option maxRecDepth 100000 in
theorem gossipTells_lifted (os : Os) (started : os.Started) (H : Type) (enc : TypeId × Value → H) :
    ReturnsInHanded {} Tryd.checked os 3 .any (fun w args => (Rows.gossipTellsSpec.pre enc Tryd.checked.prog Tryd.f3 [] false w args ∧ laidMetH Tryd.prog theLaid w) ∧ sizedMet enc Tryd.checked.prog Tryd.f3 (OpenSpec.ofChange Rows.gossipTellsSpec) false w args) (Rows.gossipTellsSpec.post enc Tryd.checked.prog Tryd.f3 false true false false) :=
  laid_lifted (C := Tryd.checked) theLaid (fun _ h => handle_of_laid h) [] Tryd.own started (by kernel_rfl) Tryd.func3 Tryd.laidOut (by kernel_rfl) rfl Tryd.underlying4 rfl (fun ds h => by match ds, h with | [_, _], _ => rfl)
    (ChangeSpec.witness_at (enc := enc) (C := Tryd.checked) (os := os) (X := fun w _ => laidMetH Tryd.prog theLaid w) false (laidWorld os) #[.int .i64 0, .slice none 0 0] 8 rfl (by kernel_rfl) (by kernel_rfl) (by kernel_rfl) (by kernel_rfl) (by kernel_rfl) (laidWorld_met os _)) gossipTells_walk

theorem gossipTells_row : Rows.GossipTellsSaid :=
  OpenClaim.holds_of_wide 3 Tryd.f3 rfl rfl rfl rfl rfl rfl rfl ⟨rfl, rfl, rfl, rfl, rfl⟩ rfl rfl rfl rfl rfl (by kernel_rfl) Tryd.func3 (by kernel_rfl)
    (of_decide_eq_true (by kernel_rfl)) (by unfold Func.isWrapper; rw [if_neg (of_decide_eq_false (by kernel_rfl))]; exact ⟨rfl, rfl⟩)
    (fun os started H enc _ => gossipTells_lifted os started H enc)

theorem gossipTells_holds : Rows.GossipTellsCardSaid :=
  Claim7.holds_tied_plain_at .later [] [.handle] true _ true
    gossipTells_row (fun _ h => by cases h) (by kernel_rfl) (fun _ h => by cases h) gossipTells_row_tie rfl ⟨rfl, rfl⟩ (by kernel_rfl) rfl
    (fun f fn hf hfn => by
      obtain rfl : f = 3 := Option.some.inj ((show Tryd.prog.funcNamed "beaconmere/merelaw2.GossipTells" = some 3 by kernel_rfl).symm.trans hf) |>.symm
      obtain rfl : fn = Tryd.f3 := (Option.some.inj (Tryd.func3.symm.trans hfn)).symm
      refine ⟨by kernel_rfl, fun j t ht => ?_⟩
      have hall : Tryd.f3.params.toList.all (fun t => !Tryd.prog.wantsStandIn t) = true := by kernel_rfl
      have hm : t ∈ Tryd.f3.params.toList := by
        obtain ⟨hj, hje⟩ := Array.getElem?_eq_some_iff.1 ht
        rw [← hje]
        exact Array.mem_toList_iff.2 (Array.getElem_mem hj)
      have := List.all_eq_true.1 hall t hm
      exact (show Tryd.prog.wantsStandIn t = false by simpa using this))
    (by kernel_rfl)

end Go.Proofs.YtdocdmpfokdjkaaDoor
