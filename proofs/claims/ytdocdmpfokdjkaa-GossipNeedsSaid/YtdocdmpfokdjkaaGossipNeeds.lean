/-
  PROVED HERE: merelaw2.GossipNeeds returns true: by the plan all know all; with fewer calls than it has they never do; a call more takes nothing away. CONDITIONS: none.
-/
import Derived.Test.YtdocdmpfokdjkaaGPlan
import Derived.Deep.CutBlock
import Derived.Deep.DeepCutAuto
namespace Go.Proofs.Ytdocdmpfokdjkaa
open Go.RowKit
open Go.ChangeShapes Go.WideShapes Go.ChangeAt

theorem gPlay_small {n : Nat} : ∀ (cs : List (SlV Int)) (l : List Nat), Small l → l.length = n → (∀ c ∈ cs, CallOk n c.xs) → Small (gPlay l cs)
  | [], _, h, _, _ => h
  | c :: cs, l, h, hl, hc => by
    obtain ⟨p1, p2, _⟩ := callOk_pair (hc c (List.mem_cons_self ..))
    exact gPlay_small cs (gStep l (pairOf c).1 (pairOf c).2) (h.step (by omega) (by omega)) (by rw [gStep_length, hl]) (fun c hm => hc c (List.mem_cons_of_mem _ hm))
theorem playR_nat {n : Nat} {cs : List (SlV Int)} (h0 : chkG n cs = 0) : playR n cs = castL (gPlay (initN n) cs) := by
  rw [playR, if_pos h0, Int.toNat_natCast]
  exact playL_nat (by have := (chkG_ok h0).1; omega) (chkG_ok h0).2.2
theorem fact_plain (g : Nat) : chkG 3 (litS g [[0, 1], [1, 2]]) = 0 ∧ playR 3 (litS g [[0, 1], [1, 2]]) = [3, 7, 7] := by
  have h : (litS g [[0, 1], [1, 2]]).map SlV.xs = (litS 0 [[0, 1], [1, 2]]).map SlV.xs := by rw [litS_xs, litS_xs]
  rw [chkG_xs 3 h, playR_xs 3 h]
  exact ⟨by decide +kernel, by decide +kernel⟩
theorem fact_any (w : World) : Calls Try.prog 6 #[.int .i64 3, .slice (some ⟨w.heap.size + 2, 0, none⟩) 2 2] (litR w [[0, 1], [1, 2]]) fun e w' =>
    ∃ (b off c : Nat), e = .returned (.tuple #[.slice (some ⟨b, off, none⟩) 3 c, .nilIface]) ∧ w'.cell? ⟨b, off, none⟩ = some (.int .i64 3) ∧ w'.cell? ⟨b, off + 1, none⟩ = some (.int .i64 7) ∧ w'.cell? ⟨b, off + 2, none⟩ = some (.int .i64 7) ∧ b < w'.heap.size ∧ Below w.heap.size w w' := by
  refine (playR_any 3 ⟨some ⟨w.heap.size + 2, 0, none⟩, 2, litS w.heap.size [[0, 1], [1, 2]]⟩ _ (litR_at [[0, 1], [1, 2]] w 2 (by unfold maxLen; decide) (by unfold maxLen; decide))).mono ?_
  rintro e w' ⟨⟨rA, rc, rx⟩, he, hx, hr, hb⟩
  have hf := fact_plain w.heap.size
  simp only at he hx
  rw [hf.1] at he
  rw [hf.2] at hx
  subst hx
  obtain ⟨b, off, hA, hl, hc⟩ := hr.row (by show 0 < 3; omega)
  simp only at hA
  subst hA
  have hz := (litR_below [[0, 1], [1, 2]] w).size
  exact ⟨b, off, rc, he, hc 0 (by show 0 < 3; omega), hc 1 (by show 1 < 3; omega), hc 2 (by show 2 < 3; omega), hl, Below.step (litR_below _ w) hb hz⟩
theorem half_step (x : Nat) : Int.tdiv (x : Int) 2 = ((x / 2 : Nat) : Int) := by rw [Int.tdiv_eq_ediv_of_nonneg (by omega)]; omega

set_option maxHeartbeats 8000000 in
set_option maxRecDepth 100000 in
theorem gossipNeeds_any (n : Int) (s : SlV (SlV Int)) (m : SlV Int) (w : World) (hs : IntssAt w s) (hm : IntsAt w m) :
    Calls Try.prog 3 #[.int .i64 n, .slice s.A s.xs.length s.c, .slice m.A m.xs.length m.c] w fun e w' => e = .returned (.bool true) ∧ Below w.heap.size w w' := by
  have Hs := hid (fun W (hW : Below w.heap.size w W) => hs.stays hW)
  have HsS := hid (fun W (hW : Below w.heap.size w W) => hs.ss.stays hW)
  have Hse := hid (fun W (hW : Below w.heap.size w W) (x : SlV Int) (hx : x ∈ s.xs) => show IntsAt W x from by
    obtain ⟨i, hi, rfl⟩ := List.mem_iff_getElem.1 hx
    exact (hs.each i hi).stays0 hW)
  have Hme := hid (fun W (hW : Below w.heap.size w W) => hm.stays0 hW)
  have HF := hid (fact_any w)
  have hlen := hs.len
  unfold maxLen at hlen
  clear hs hm
  go_enter Try.func3, Try.ntmps3
  go_wp2_with fail
  refine HF.out.mono ?_
  rintro e w1 ⟨b, off, c, rfl, c0, c1, c2, hbl, hb1⟩
  have Hb1 := hid hb1
  have hz1 := hb1.size
  clear hb1 HF
  rcases hn : nodesB n with _ | _
  · have HP := hid (plan_bad n hn w1)
    rw [errV_ne (show (1 : Int) ≠ 0 by decide)] at HP
    rcases nodesB_false.1 hn with h1 | h1
    all_goals
      clear hn
      go_wp2_with fail
      refine HP.out.mono ?_
      rintro e w2 ⟨rfl, hb2⟩
      go_wp2_with fail
      go_ret
      exact ⟨rfl, Below.step Hb1.out hb2 hz1⟩
  · obtain ⟨h1, h6⟩ := nodesB_true.1 hn
    clear hn
    obtain ⟨N, rfl⟩ := Int.eq_ofNat_of_zero_le (show 0 ≤ n by omega)
    have HP := hid (plan_any N (by omega) (by omega) w1)
    go_wp2_with fail
    refine HP.out.mono ?_
    rintro e w2 ⟨p, rfl, hp, hpx, hb2⟩
    obtain ⟨hg1, hg2, hg3, hg4⟩ := plan_good (n := N) (by omega) (by omega) hpx
    have HD := hid (done_any N p w2 hp)
    rw [hg1, hg2, errV_zero] at HD
    have Hg3 := hid hg3
    have Hg4 := hid hg4
    have Hb2 := hid (Below.step Hb1.out hb2 hz1)
    have hz2 := Hb2.out.size
    have hpl := hp.len
    unfold maxLen at hpl
    clear hp hpx hb2 hg1 hg2 hg3 hg4 c0 c1 c2 HP
    go_wp2_with fail
    refine HD.out.mono ?_
    rintro e w3 ⟨rfl, hb3⟩
    have Hb3 := hid (Below.step Hb2.out hb3 hz2)
    have hz3 := Hb3.out.size
    clear hb3 HD
    go_upto_region 8 with fail
    go_cut [91] (fun t wx => t = .bool false ∧ wx = w3)
    case first =>
      by_cases h4 : 4 ≤ N
      · have h4' : (4 : Int) ≤ (N : Int) := by omega
        have hne := Hg4.out h4
        clear h4
        go_wp2_with fail
        go_meet
        exact ⟨by first | rfl | (congr 1; simp; omega) | (simp; omega), rfl⟩
      · have h4' : ¬ (4 : Int) ≤ (N : Int) := by omega
        clear h4
        go_wp2_with fail
        go_meet
        exact ⟨rfl, rfl⟩
    case rest =>
    obtain ⟨rfl, hwc⟩ := hcut
    obtain rfl : w3 = wc := hwc.symm
    have HD := hid (done_any N s w3 (Hs.out _ Hb3.out))
    by_cases h0 : chkG N s.xs = 0
    · rw [h0, errV_zero] at HD
      obtain ⟨d, hd⟩ : ∃ d, doneB N s.xs = d := ⟨_, rfl⟩
      rw [hd] at HD
      have Hd := hid (show d = true → ¬ s.xs.length < p.xs.length from fun h => by
        have := done_few (hd.trans h)
        rw [Hg3.out]
        exact this)
      have Hh0 := hid h0
      have hs40 := (chkG_ok h0).2.1
      clear hd h0
      go_wp2_with fail
      refine HD.out.mono ?_
      rintro e w4 ⟨rfl, hb4⟩
      have Hb4 := hid (Below.step Hb3.out hb4 hz3)
      have hz4 := Hb4.out.size
      clear hb4 HD
      go_upto_region 13 with fail
      go_cut [107] (fun t wx => t = .bool false ∧ wx = w4)
      case first =>
        rcases d with _ | _
        · go_wp2_with fail
          go_meet
          exact ⟨rfl, rfl⟩
        · have hnl := Hd.out rfl
          have hnl' : ¬ (s.xs.length : Int) < (p.xs.length : Int) := by omega
          clear hnl
          go_wp2_with fail
          go_meet
          exact ⟨by first | rfl | (congr 1; simp; omega) | (simp; omega), rfl⟩
      case rest =>
      obtain ⟨rfl, hwc⟩ := hcut
      obtain rfl : w4 = wc := hwc.symm
      have HO := hid (Ow.nil (cellS (α := Int)) 1 w.heap.size 23 w4)
      have HS4 := hid (HsS.out _ Hb4.out)
      go_wp2_with (at_builtin; refine appSs _ w.heap.size _ [] s HS4.out HO.out rfl _ _ rfl rfl rfl ?_ ?_ ?_)
      any_goals (first | (with_reducible rfl) | omega | (simp; omega))
      intro v5 w5 h5 f5 o5
      try rw [List.nil_append] at h5
      have Hb5 := hid (Hb4.out.trans (f5.below0 hz4 (fun i hi => by cases hi)))
      have hz5 := Hb5.out.size
      have HO5 := hid h5
      clear h5 f5 o5 HO HS4
      go_wp2_with (at_builtin; refine appS _ w.heap.size _ s.xs m HO5.out rfl _ _ rfl rfl rfl ?_ ?_ ?_ ?_)
      any_goals (first | (with_reducible rfl) | omega | exact World.size_alloc _ _ | (show _ ≤ _; rw [World.size_alloc]; omega))
      intro v6 w6 h6' f6 o6
      have Hb6 := hid (Hb5.out.trans (f6.below0 hz5 (fun i hi => HO5.out.ge _ hi)))
      have hz6 := Hb6.out.size
      obtain ⟨r, rfl, hrx, hr, -, -⟩ := SsAt.of_ow h6'
      have HR := hid (hr.ints (fun x hx => by
        rw [hrx] at hx
        rcases List.mem_append.1 hx with hx | hx
        · exact Hse.out _ Hb6.out x hx
        · rw [List.mem_singleton.1 hx]; exact Hme.out _ Hb6.out))
      have Hrx := hid hrx
      have HPa := hid (playR_any N s w6 (Hs.out _ Hb6.out))
      rw [Hh0.out, errV_zero] at HPa
      clear h6' f6 o6 hr hrx HO5
      go_wp2_with fail
      refine HPa.out.mono ?_
      rintro e w7 ⟨a, rfl, hax, ha, hb7⟩
      have Hb7 := hid hb7
      have Hax := hid hax
      have Ha := hid ha
      have hz7 := hb7.size
      have HPb := hid (playR_any N r w7 (HR.out.stays hb7))
      clear hb7 hax ha HPa HR
      by_cases hk : chkG N r.xs = 0
      · have hok := (chkG_ok hk).2.2 m (by rw [Hrx.out]; exact List.mem_append_right _ (List.mem_singleton.2 rfl))
        have hbits := hid (fun i j => more_bits (n := N) (cs := s.xs) (c := m) hok (i := i) (j := j))
        have hA := playR_nat Hh0.out
        have hB : playR N r.xs = castL (gPlay (initN N) (s.xs ++ [m])) := by rw [playR_nat hk, Hrx.out]
        have hSA := gPlay_small (n := N) s.xs (initN N) (initN_small (by omega)) (initN_length N) (chkG_ok Hh0.out).2.2
        have hSB := gPlay_small (n := N) (s.xs ++ [m]) (initN N) (initN_small (by omega)) (initN_length N) (by rw [← Hrx.out]; exact (chkG_ok hk).2.2)
        have hLA : (gPlay (initN N) s.xs).length = N := by rw [gPlay_length, initN_length]
        have hLB : (gPlay (initN N) (s.xs ++ [m])).length = N := by rw [gPlay_length, initN_length]
        rw [hk, errV_zero, hB] at HPb
        rw [hA] at Hax
        generalize gPlay (initN N) s.xs = GA at *
        generalize gPlay (initN N) (s.xs ++ [m]) = GB at *
        have HSA := hid hSA
        have HSB := hid hSB
        clear hA hB hk hSA hSB hok
        go_wp2_with fail
        refine HPb.out.mono ?_
        rintro e w8 ⟨b', rfl, hbx, hb', hb8⟩
        have hal : a.xs.length = N := by rw [Hax.out]; simp [castL, hLA]
        have hbl' : b'.xs.length = N := by rw [hbx]; simp [castL, hLB]
        have Ha8 := hid (Ha.out.stays0 hb8)
        have Hb' := hid hb'
        have Hbx := hid hbx
        have Hal := hid hal
        have Hbl := hid hbl'
        have Hfin := hid (Below.step (Below.step Hb6.out Hb7.out hz6) hb8 (by omega))
        clear hal hbl' hb8 hbx hb' hLA hLB HPb
        go_wp2_with fail
        go_loopw [19] (fun i wr => ∃ k : Nat, k ≤ N ∧ i = .int .i64 k ∧ wr = w8) (fun i _ => N - (intOf i).toNat)
        case atStart => exact ⟨0, Nat.zero_le _, rfl, rfl⟩
        case round =>
          obtain ⟨k, hk, rfl, hwr⟩ := hrel
          obtain rfl : w8 = wr := hwr.symm
          by_cases hlt : k < N
          · have hlt' : (k : Int) < (N : Int) := by omega
            obtain ⟨gA, oA, hAA, hlA, hcA⟩ := Ha8.out.row (by rw [Hal.out]; omega)
            obtain ⟨gB, oB, hBB, hlB, hcB⟩ := Hb'.out.row (by rw [Hbl.out]; omega)
            have cA := hcA k (by rw [Hal.out]; exact hlt)
            have cB := hcB k (by rw [Hbl.out]; exact hlt)
            rw [Hax.out, castL_getD] at cA
            rw [Hbx.out, castL_getD] at cB
            have hPQ := hid (fun j => hbits.out k j)
            have hP6 := HSA.out k
            have hQ6 := HSB.out k
            have hla : (k : Int) < (a.xs.length : Int) := by rw [Hal.out]; exact hlt'
            have hlb : (k : Int) < (b'.xs.length : Int) := by rw [Hbl.out]; exact hlt'
            generalize GA.getD k 0 = p0 at *
            generalize GB.getD k 0 = q0 at *
            rw [hAA, hBB]
            clear hcA hcB hAA hBB
            go_wp2_with fail
            go_loopw [20, 21, 22] (fun x y i wr => ∃ j : Nat, j ≤ 6 ∧ i = .int .i64 j ∧ x = .int .i64 (p0 / 2 ^ j : Nat) ∧ y = .int .i64 (q0 / 2 ^ j : Nat) ∧ wr = w8) (fun _ _ i _ => 6 - (intOf i).toNat)
            case atStart => exact ⟨0, Nat.zero_le _, rfl, by simp, by simp, rfl⟩
            case round =>
              obtain ⟨j, hj, rfl, rfl, rfl, hwr⟩ := hrel
              obtain rfl : w8 = wr := hwr.symm
              by_cases hlt6 : j < 6
              · have hlt6' : (j : Int) < 6 := by omega
                have hpb : p0 / 2 ^ j < 64 := Nat.lt_of_le_of_lt (Nat.div_le_self _ _) hP6
                have hqb : q0 / 2 ^ j < 64 := Nat.lt_of_le_of_lt (Nat.div_le_self _ _) hQ6
                have hbit : p0 / 2 ^ j % 2 = 1 → q0 / 2 ^ j % 2 = 1 := fun h => by
                  have := hPQ.out j
                  rw [Nat.testBit_eq_decide_div_mod_eq, Nat.testBit_eq_decide_div_mod_eq] at this
                  simpa using this (by simpa using h)
                have hps : p0 / 2 ^ (j + 1) = p0 / 2 ^ j / 2 := by rw [Nat.pow_succ, Nat.div_div_eq_div_mul]
                have hqs : q0 / 2 ^ (j + 1) = q0 / 2 ^ j / 2 := by rw [Nat.pow_succ, Nat.div_div_eq_div_mul]
                have Hps := hid hps
                have Hqs := hid hqs
                clear hps hqs
                generalize p0 / 2 ^ j = x at *
                generalize q0 / 2 ^ j = y at *
                have tx : Int.tmod (x : Int) 2 = ((x % 2 : Nat) : Int) := by rw [Int.tmod_eq_emod_of_nonneg (by omega)]; omega
                have ty : Int.tmod (y : Int) 2 = ((y % 2 : Nat) : Int) := by rw [Int.tmod_eq_emod_of_nonneg (by omega)]; omega
                have sx := half_step x
                have sy := half_step y
                rcases (show x % 2 = 0 ∨ (x % 2 = 1 ∧ y % 2 = 1) by omega) with h | ⟨h, h'⟩
                · rw [h] at tx
                  go_wp2_with fail
                  go_roundw
                  case rel => exact ⟨j + 1, by omega, by go_num, by rw [Hps.out, show ((x / 2 : Nat) : Int) = (x : Int) / 2 by omega], by rw [Hqs.out, show ((y / 2 : Nat) : Int) = (y : Int) / 2 by omega], by first | rfl | trivial⟩
                  case measure => simp [intOf]; omega
                · rw [h] at tx
                  rw [h'] at ty
                  go_wp2_with fail
                  go_roundw
                  case rel => exact ⟨j + 1, by omega, by go_num, by rw [Hps.out, show ((x / 2 : Nat) : Int) = (x : Int) / 2 by omega], by rw [Hqs.out, show ((y / 2 : Nat) : Int) = (y : Int) / 2 by omega], by first | rfl | trivial⟩
                  case measure => simp [intOf]; omega
              · obtain rfl : j = 6 := by omega
                go_wp2_with fail
                go_roundw
                case rel => exact ⟨k + 1, by omega, by go_num, by first | rfl | trivial⟩
                case measure => simp [intOf]; omega
          · obtain rfl : k = N := by omega
            go_wp2_with fail
            go_ret
            exact ⟨rfl, Hfin.out⟩
      · have he := errV_ne hk
        rw [he] at HPb
        clear hk he
        go_wp2_with fail
        refine HPb.out.mono ?_
        rintro e w8 ⟨b', rfl, hbx, hb', hb8⟩
        have Hfin := hid (Below.step (Below.step Hb6.out Hb7.out hz6) hb8 (by omega))
        clear hb8 hbx hb'
        go_wp2_with fail
        go_ret
        exact ⟨rfl, Hfin.out⟩
    · rw [errV_ne h0] at HD
      generalize doneB N s.xs = d at *
      clear h0
      go_wp2_with fail
      refine HD.out.mono ?_
      rintro e w4 ⟨rfl, hb4⟩
      have Hb4 := hid (Below.step Hb3.out hb4 hz3)
      go_wp2_with fail
      go_ret
      exact ⟨rfl, Hb4.out⟩

set_option maxRecDepth 100000 in
theorem gossipNeeds_walk : LawWalk Try.prog 3 Try.f3 (fun _ => True) := by
  intro W base args H enc ds p hval hA _
  rw [Try.params3] at hA hval
  obtain ⟨v0, v1, v2, d0, d1, d2, p0, p1, p2, rfl, rfl, rfl, h0, h1, h2⟩ := trodAll_three hA
  obtain ⟨n, rfl, _⟩ := arg_int Try.underlying3 (hval 0 3 v0 rfl rfl) h0
  obtain ⟨st, rfl, hst⟩ := arg_slice Try.underlying22 codecInts (pos_of_eq Try.cellsInts (by decide)) (hval 1 22 v1 rfl rfl) h1
  obtain ⟨m, rfl, hm⟩ := arg_slice Try.underlying23 (Codec.int Try.underlying3) (pos_of_eq Try.cellsInt (by decide)) (hval 2 23 v2 rfl rfl) h2
  exact gossipNeeds_any n st m W (intssAt_of hst) (intsAt_of hm)

set_option maxRecDepth 100000 in
theorem gossipNeeds_lifted (os : Os) (started : os.Started) (H : Type) (enc : TypeId × Value → H) :
    ReturnsInHanded {} Try.checked os 3 .any (Rows.gossipNeedsSpec.pre6 enc Try.prog Try.f3 Rows.gossipNeedsRow.domain false) (Rows.gossipNeedsSpec.post enc Try.prog Try.f3 false true false false) :=
  law_lifted (C := Try.checked) Rows.gossipNeedsRow.domain Try.own started (by kernel_rfl) Try.func3 Try.laidOut (by kernel_rfl) rfl Try.underlying4 rfl (fun ds h => by match ds, h with | [_, _, _], _ => rfl)
    (ChangeSpec.witness6 (enc := enc) (C := Try.checked) false ⟨#[], #[.int .i64 0, .slice none 0 0, .slice none 0 0], []⟩ 8 (by kernel_rfl) (by kernel_rfl) (by kernel_rfl) (by kernel_rfl)) gossipNeeds_walk

theorem gossipNeeds_holds : Rows.GossipNeedsSaid :=
  OpenClaim.holds_of_wide 3 Try.f3 rfl rfl rfl rfl rfl rfl rfl ⟨rfl, rfl, rfl, rfl, rfl⟩ rfl rfl rfl rfl rfl (by kernel_rfl) Try.func3 (by kernel_rfl)
    (of_decide_eq_true (by kernel_rfl)) (by unfold Func.isWrapper; rw [if_neg (of_decide_eq_false (by kernel_rfl))]; exact ⟨rfl, rfl⟩)
    (fun os started H enc _ => gossipNeeds_lifted os started H enc)

end Go.Proofs.Ytdocdmpfokdjkaa
