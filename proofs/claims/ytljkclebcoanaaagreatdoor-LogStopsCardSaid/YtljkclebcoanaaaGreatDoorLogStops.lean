/-
  PROVED HERE: merelaw3.LogStops returns true: a log stops at the step that was told; then all is refused, till it crashes; then all goes on. CONDITIONS: the library's variables as the program's text lays them (tied by the card).
-/
import Derived.Test.YtljkclebcoanaaaGreatDoorLogX
import Derived.Test.YtljkclebcoanaaaGreatDoorStopLaw
import Derived.BigQuiet
namespace Go.Proofs.YtljkclebcoanaaaGreatDoor
open Go.RowKit
open Go.ChangeShapes Go.WideShapes Go.ChangeAt

set_option maxHeartbeats 16000000 in
set_option maxRecDepth 100000 in
theorem logStops_any (after many keep : Int) (hk : -9223372036854775808 ≤ keep ∧ keep ≤ 9223372036854775807) (w : World) (hT : Tv w) :
    Calls Tryz.prog 3 #[.int .i64 after, .int .i64 many, .int .i64 keep] w fun e w' => e = .returned (.bool true) ∧ Below w.heap.size w w' := by
  by_cases hno : ¬ ((0 ≤ after ∧ after ≤ 20) ∧ (0 ≤ many ∧ many ≤ 20))
  · have hc : after < 0 ∨ (¬ after < 0 ∧ 20 < after) ∨ (¬ after < 0 ∧ ¬ 20 < after ∧ many < 0) ∨ (¬ after < 0 ∧ ¬ 20 < after ∧ ¬ many < 0 ∧ 20 < many) := by omega
    clear hno
    rcases hc with h1 | ⟨h1, h2⟩ | ⟨h1, h2, h3⟩ | ⟨h1, h2, h3, h4⟩
    all_goals
      go_enter Tryz.func3, Tryz.ntmps3
      go_wp2_with fail
      go_ret
      exact ⟨rfl, Below.refl _ _⟩
  obtain ⟨⟨a0, a1⟩, b0, b1⟩ := Classical.not_not.1 hno
  clear hno
  obtain ⟨a, rfl⟩ := Int.eq_ofNat_of_zero_le a0
  obtain ⟨m, rfl⟩ := Int.eq_ofNat_of_zero_le b0
  have g1 : ¬ (a : Int) < 0 := by omega
  have g2 : ¬ (20 : Int) < (a : Int) := by omega
  have g3 : ¬ (m : Int) < 0 := by omega
  have g4 : ¬ (20 : Int) < (m : Int) := by omega
  have HT0 := hid hT.base
  have Hk := hid hk
  clear hT hk
  go_enter Tryz.func3, Tryz.ntmps3
  go_wp2_with fail
  refine (xnew w).mono ?_
  rintro e w1 ⟨l, rfl, hX1, hb1⟩
  have Hb1 := hid hb1
  have HX1 := hid (fun n (hn : n ≤ 9223372036854775807) => xfail hX1 n hn)
  clear hX1 hb1
  go_wp2_with fail
  refine (HX1.out a (by omega)).mono ?_
  rintro e w2 ⟨⟨v, rfl⟩, hX2, hb2⟩
  have HX2 := hid hX2
  have Hb2 := hid (Hb1.out.trans hb2)
  clear HX1 hX2 hb2 Hb1
  go_upto_block 0 with fail
  go_cut [8] (fun s wx => ∃ (i : Nat) (G : LG), i ≤ 20 ∧ s = .int .i64 i ∧ StopI a i G ∧ LogX w.heap.size wx l G ∧ Below w.heap.size w wx)
  case first =>
    as_aux_lemma =>
    go_wp2_with fail
    go_loopw [8, 9] (fun s i' wr => ∃ (i : Nat) (G : LG), i ≤ m ∧ s = .int .i64 i ∧ i' = .int .i64 i ∧ StopI a i G ∧ LogX w.heap.size wr l G ∧ Below w.heap.size w wr) (fun _ i _ => m - (intOf i).toNat)
    case atStart => exact ⟨0, _, Nat.zero_le _, rfl, rfl, StopI.start a, HX2.out, Hb2.out⟩
    case round =>
      clear HX2 Hb2
      obtain ⟨i, G, him, rfl, rfl, hI, hX, hbr⟩ := hrel
      obtain ⟨wq, rfl⟩ : ∃ wq : World, wq = wr := ⟨_, rfl⟩
      by_cases hlt : i < m
      · have hml : (i : Int) < (m : Int) := by omega
        rcases Nat.lt_trichotomy i a with hia | hia | hia
        · -- steps < after
          have hp8 : G.put 8 ⟨#[120]⟩ = ((0, 1), G) := by rw [hI.put8]; simp only [if_neg (show ¬ a < i by omega)]
          have hp1 := hI.put1 (by omega) ⟨#[120]⟩ (by decide)
          rw [if_pos (show i < a by omega)] at hp1
          have H8 := hid (xput hX (HT0.out.step hbr) 8 ⟨#[120]⟩ (by decide))
          rw [hp8] at H8
          simp only at H8
          have H1 := hid (fun W (hX : LogX w.heap.size W l G) (hb : Below w.heap.size w W) => xput hX (HT0.out.step hb) 1 ⟨#[120]⟩ (by decide))
          generalize G.put 1 ⟨#[120]⟩ = R at *
          obtain ⟨⟨r0, r1⟩, G'⟩ := R
          simp only at hp1 H1
          obtain ⟨rfl, hI'⟩ := hp1
          have HI' := hid hI'
          have Hb2 := hid hbr
          clear hp8 hI' hI hX hbr
          go_wp2_with fail
          refine H8.out.mono ?_
          rintro e w3 ⟨rfl, hX3, hb3⟩
          have Hb3 := hid (Hb2.out.trans hb3)
          have H1' := hid (H1.out w3 hX3 Hb3.out)
          clear hX3 hb3 H8 H1
          go_wp2_with fail
          refine H1'.out.mono ?_
          rintro e w4 ⟨rfl, hX4, hb4⟩
          have Hb4 := hid (Hb3.out.trans hb4)
          have HX4 := hid hX4
          clear hX4 hb4 H1'
          go_wp2_with fail
          refine (error_any 1 6 w4 (HT0.out w4 Hb4.out).gl).mono ?_
          rintro e w5 ⟨rfl, hb⟩
          have Hb5 := hid (Below.step Hb4.out hb Hb4.out.size)
          have HX5 := hid (HX4.out.belowS hb)
          clear hb
          go_wp2_with fail
          refine (error_any 1 1 w5 (HT0.out w5 Hb5.out).gl).mono ?_
          rintro e w6 ⟨rfl, hb⟩
          have Hb6 := hid (Below.step Hb5.out hb Hb5.out.size)
          have HX6 := hid (HX5.out.belowS hb)
          clear hb
          go_wp2_with fail
          refine (error_any 0 6 w6 (HT0.out w6 Hb6.out).gl).mono ?_
          rintro e w7 ⟨rfl, hb⟩
          have Hb7 := hid (Below.step Hb6.out hb Hb6.out.size)
          have HX7 := hid (HX6.out.belowS hb)
          clear hb
          simp only [errV_zero]
          go_wp2_with fail
          go_roundw
          case rel => exact ⟨i + 1, G', by omega, by go_num, by go_num, HI'.out, HX7.out, Hb7.out⟩
          case measure => simp [intOf]; omega
        · -- steps = after
          have hp8 : G.put 8 ⟨#[120]⟩ = ((0, 1), G) := by rw [hI.put8]; simp only [if_neg (show ¬ a < i by omega)]
          have hp1 := hI.put1 (by omega) ⟨#[120]⟩ (by decide)
          rw [if_neg (show ¬ i < a by omega)] at hp1
          have H8 := hid (xput hX (HT0.out.step hbr) 8 ⟨#[120]⟩ (by decide))
          rw [hp8] at H8
          simp only at H8
          have H1 := hid (fun W (hX : LogX w.heap.size W l G) (hb : Below w.heap.size w W) => xput hX (HT0.out.step hb) 1 ⟨#[120]⟩ (by decide))
          generalize G.put 1 ⟨#[120]⟩ = R at *
          obtain ⟨⟨r0, r1⟩, G'⟩ := R
          simp only at hp1 H1
          obtain ⟨rfl, hI'⟩ := hp1
          have HI' := hid hI'
          have Hb2 := hid hbr
          clear hp8 hI' hI hX hbr
          go_wp2_with fail
          refine H8.out.mono ?_
          rintro e w3 ⟨rfl, hX3, hb3⟩
          have Hb3 := hid (Hb2.out.trans hb3)
          have H1' := hid (H1.out w3 hX3 Hb3.out)
          clear hX3 hb3 H8 H1
          go_wp2_with fail
          refine H1'.out.mono ?_
          rintro e w4 ⟨rfl, hX4, hb4⟩
          have Hb4 := hid (Hb3.out.trans hb4)
          have HX4 := hid hX4
          clear hX4 hb4 H1'
          go_wp2_with fail
          refine (error_any 1 6 w4 (HT0.out w4 Hb4.out).gl).mono ?_
          rintro e w5 ⟨rfl, hb⟩
          have Hb5 := hid (Below.step Hb4.out hb Hb4.out.size)
          have HX5 := hid (HX4.out.belowS hb)
          clear hb
          go_wp2_with fail
          refine (error_any 1 1 w5 (HT0.out w5 Hb5.out).gl).mono ?_
          rintro e w6 ⟨rfl, hb⟩
          have Hb6 := hid (Below.step Hb5.out hb Hb5.out.size)
          have HX6 := hid (HX5.out.belowS hb)
          clear hb
          go_wp2_with fail
          refine (error_any 6 6 w6 (HT0.out w6 Hb6.out).gl).mono ?_
          rintro e w7 ⟨rfl, hb⟩
          have Hb7 := hid (Below.step Hb6.out hb Hb6.out.size)
          have HX7 := hid (HX6.out.belowS hb)
          clear hb
          rw [errV_ne (show (6 : Int) ≠ 0 by decide)]
          go_wp2_with fail
          go_roundw
          case rel => exact ⟨i + 1, G', by omega, by go_num, by go_num, HI'.out, HX7.out, Hb7.out⟩
          case measure => simp [intOf]; omega
        · -- steps > after
          have hp8 : G.put 8 ⟨#[120]⟩ = ((0, 6), G) := by rw [hI.put8]; simp only [if_pos (show a < i by omega)]
          have hp1 := hI.put1 (by omega) ⟨#[120]⟩ (by decide)
          rw [if_neg (show ¬ i < a by omega)] at hp1
          have H8 := hid (xput hX (HT0.out.step hbr) 8 ⟨#[120]⟩ (by decide))
          rw [hp8] at H8
          simp only at H8
          have H1 := hid (fun W (hX : LogX w.heap.size W l G) (hb : Below w.heap.size w W) => xput hX (HT0.out.step hb) 1 ⟨#[120]⟩ (by decide))
          generalize G.put 1 ⟨#[120]⟩ = R at *
          obtain ⟨⟨r0, r1⟩, G'⟩ := R
          simp only at hp1 H1
          obtain ⟨rfl, hI'⟩ := hp1
          have HI' := hid hI'
          have Hb2 := hid hbr
          clear hp8 hI' hI hX hbr
          go_wp2_with fail
          refine H8.out.mono ?_
          rintro e w3 ⟨rfl, hX3, hb3⟩
          have Hb3 := hid (Hb2.out.trans hb3)
          have H1' := hid (H1.out w3 hX3 Hb3.out)
          clear hX3 hb3 H8 H1
          go_wp2_with fail
          refine H1'.out.mono ?_
          rintro e w4 ⟨rfl, hX4, hb4⟩
          have Hb4 := hid (Hb3.out.trans hb4)
          have HX4 := hid hX4
          clear hX4 hb4 H1'
          go_wp2_with fail
          refine (error_any 6 6 w4 (HT0.out w4 Hb4.out).gl).mono ?_
          rintro e w5 ⟨rfl, hb⟩
          have Hb5 := hid (Below.step Hb4.out hb Hb4.out.size)
          have HX5 := hid (HX4.out.belowS hb)
          clear hb
          go_wp2_with fail
          refine (error_any 6 1 w5 (HT0.out w5 Hb5.out).gl).mono ?_
          rintro e w6 ⟨rfl, hb⟩
          have Hb6 := hid (Below.step Hb5.out hb Hb5.out.size)
          have HX6 := hid (HX5.out.belowS hb)
          clear hb
          go_wp2_with fail
          refine (error_any 6 6 w6 (HT0.out w6 Hb6.out).gl).mono ?_
          rintro e w7 ⟨rfl, hb⟩
          have Hb7 := hid (Below.step Hb6.out hb Hb6.out.size)
          have HX7 := hid (HX6.out.belowS hb)
          clear hb
          rw [errV_ne (show (6 : Int) ≠ 0 by decide)]
          go_wp2_with fail
          go_roundw
          case rel => exact ⟨i + 1, G', by omega, by go_num, by go_num, HI'.out, HX7.out, Hb7.out⟩
          case measure => simp [intOf]; omega
      · obtain rfl : i = m := by omega
        have Hr := hid (And.intro hI (And.intro hX hbr))
        clear hI hX hbr
        go_wp2_with fail
        go_meet
        exact ⟨i, G, by omega, rfl, Hr.out.1, Hr.out.2.1, Hr.out.2.2⟩
  case rest =>
  obtain ⟨i, G, hi20, rfl, hI, hX, hbc⟩ := hcut
  obtain ⟨w3, rfl⟩ : ∃ w3 : World, w3 = wc := ⟨_, rfl⟩
  have HI := hid hI
  have HX := hid hX
  have Hb := hid hbc
  clear HX2 Hb2 hI hX hbc
  go_upto_block 2 with fail
  go_cut [8] (fun s wx => ∃ (i : Nat) (G : LG), i ≤ 21 ∧ a < i ∧ StopI a i G ∧ LogX w.heap.size wx l G ∧ Below w.heap.size w wx)
  case first =>
    as_aux_lemma =>
    go_wp2_with fail
    go_loopw [8] (fun s wr => ∃ (i : Nat) (G : LG), i ≤ 21 ∧ s = .int .i64 i ∧ StopI a i G ∧ LogX w.heap.size wr l G ∧ Below w.heap.size w wr) (fun s _ => 21 - (intOf s).toNat)
    case atStart => exact ⟨i, G, by omega, rfl, HI.out, HX.out, Hb.out⟩
    case round =>
      clear HI HX Hb
      obtain ⟨j, G, hj, rfl, hI, hX, hbr⟩ := hrel
      obtain ⟨wq, rfl⟩ : ∃ wq : World, wq = wr := ⟨_, rfl⟩
      by_cases hlt : j ≤ a
      · have hja : (j : Int) ≤ (a : Int) := by omega
        obtain ⟨hs1, hs2⟩ := hI.sync hlt
        have HS := hid (xsync hX)
        have Hb2 := hid hbr
        by_cases he : j = a
        · rw [if_pos he] at hs1
          rw [hs1, errV_ne (show (6 : Int) ≠ 0 by decide)] at HS
          have HI2 := hid hs2
          generalize G.sync.2 = G' at *
          have hje : ((j : Int) == (a : Int)) = true := by rw [he]; simp
          clear hs1 hs2 hI hX hbr he
          go_wp2_with fail
          refine HS.out.mono ?_
          rintro e w4 ⟨rfl, hX4, hb4⟩
          have HX4 := hid hX4
          have Hb4 := hid (Hb2.out.trans hb4)
          clear hX4 hb4 HS
          go_wp2_with fail
          go_roundw
          case rel => exact ⟨j + 1, G', by omega, by go_num, HI2.out, HX4.out, Hb4.out⟩
          case measure => simp [intOf]; omega
        · rw [if_neg he] at hs1
          rw [hs1, errV_zero] at HS
          have HI2 := hid hs2
          generalize G.sync.2 = G' at *
          have hje : ((j : Int) == (a : Int)) = false := beq_eq_false_iff_ne.2 (by omega)
          clear hs1 hs2 hI hX hbr he
          go_wp2_with fail
          refine HS.out.mono ?_
          rintro e w4 ⟨rfl, hX4, hb4⟩
          have HX4 := hid hX4
          have Hb4 := hid (Hb2.out.trans hb4)
          clear hX4 hb4 HS
          go_wp2_with fail
          go_roundw
          case rel => exact ⟨j + 1, G', by omega, by go_num, HI2.out, HX4.out, Hb4.out⟩
          case measure => simp [intOf]; omega
      · have Hr := hid (And.intro hI (And.intro hX hbr))
        clear hI hX hbr
        go_wp2_with fail
        go_meet
        exact ⟨j, G, hj, by omega, Hr.out.1, Hr.out.2.1, Hr.out.2.2⟩
  case rest =>
  as_aux_lemma =>
  clear HI HX Hb
  obtain ⟨j, G, hj, hja, hI, hX, hb4⟩ := hcut
  obtain ⟨w4, rfl⟩ : ∃ w4 : World, w4 = wc := ⟨_, rfl⟩
  have hst := hI.off hja
  have hfew := hI.few
  have HS := hid (xsync hX)
  rw [LG.sync_off hst, errV_ne (show (6 : Int) ≠ 0 by decide)] at HS
  have HD := hid (fun W (hX : LogX w.heap.size W l G) (hb : Below w.heap.size w W) => xdel hX (HT0.out.step hb) 0)
  rw [LG.del_off hst, errV_ne (show (6 : Int) ≠ 0 by decide)] at HD
  obtain ⟨D, hD, C, hput, hCD, hsy, hsD, hss⟩ := after_crash (show G.D.length ≤ 100 by omega) keep ⟨#[121]⟩ (by decide)
  have hDl : D.length ≤ 41 := by rw [← hD]; show (G.D.take _).length ≤ _; rw [List.length_take]; omega
  have HC := hid (fun W (hX : LogX w.heap.size W l G) (hb : Below w.heap.size w W) => xcrash hX (HT0.out.step hb) keep Hk.out)
  have HQ := hid (fun W (hX : LogX w.heap.size W l (G.crash keep)) => xseq hX)
  rw [hD] at HQ
  have HP := hid (fun W (hX : LogX w.heap.size W l (G.crash keep)) (hb : Below w.heap.size w W) => xput hX (HT0.out.step hb) 5 ⟨#[121]⟩ (by decide))
  rw [hput] at HP
  simp only [errV_zero] at HP
  have HY := hid (fun W (hX : LogX w.heap.size W l C) => xsync hX)
  rw [hsy, errV_zero] at HY
  have hrd := read_snoc D 5 (by decide) ⟨#[121]⟩
  have HR := hid (fun W (hX : LogX w.heap.size W l C.sync.2) => xread hX 5)
  rw [hsD, hCD, show (5 : Int) = ((5 : Nat) : Int) from rfl, hrd, errV_zero] at HR
  have HB := hid (fun W (hX : LogX w.heap.size W l C.sync.2) => xbytes hX)
  have HZ := hid (fun W (hX : LogX w.heap.size W l C.sync.2) => xsafe hX)
  rw [hss] at HZ
  have Hb4 := hid hb4
  clear hst hfew hD hput hCD hsy hsD hss hrd hI hX hb4
  generalize G.crash keep = K at *
  generalize C.sync.2 = M at *
  generalize M.bs.length = nb at *
  generalize (D ++ [(⟨(5 : Nat), 0, 0, false, ⟨#[121]⟩⟩ : E)]).length = nd at *
  generalize D.length = dl at *
  go_wp2_with fail
  refine HS.out.mono ?_
  rintro e w5 ⟨rfl, hX5, hb5⟩
  have Hb5 := hid (Hb4.out.trans hb5)
  have HD5 := hid (HD.out w5 hX5 Hb5.out)
  clear hX5 hb5 HS HD
  go_wp2_with fail
  refine HD5.out.mono ?_
  rintro e w6 ⟨rfl, hX6, hb6⟩
  have Hb6 := hid (Hb5.out.trans hb6)
  have HX6 := hid hX6
  have HE6 := hid (error_any 6 6 w6 (HT0.out w6 Hb6.out).gl)
  rw [errV_ne (show (6 : Int) ≠ 0 by decide)] at HE6
  clear hX6 hb6 HD5
  go_wp2_with fail
  refine HE6.out.mono ?_
  rintro e w7 ⟨rfl, hb7⟩
  have Hb7 := hid (Below.step Hb6.out hb7 Hb6.out.size)
  have HX7 := hid (HX6.out.belowS hb7)
  have HE7 := hid (error_any 6 6 w7 (HT0.out w7 Hb7.out).gl)
  rw [errV_ne (show (6 : Int) ≠ 0 by decide)] at HE7
  clear hb7 HE6 HX6
  go_wp2_with fail
  refine HE7.out.mono ?_
  rintro e w8 ⟨rfl, hb8⟩
  have Hb8 := hid (Below.step Hb7.out hb8 Hb7.out.size)
  have HC8 := hid (HC.out w8 (HX7.out.belowS hb8) Hb8.out)
  clear hb8 HE7 HX7 HC
  go_wp2_with fail
  refine HC8.out.mono ?_
  rintro e w9 ⟨⟨v9, rfl⟩, hX9, hb9⟩
  have Hb9 := hid (Hb8.out.trans hb9)
  have HQ9 := hid (HQ.out w9 hX9)
  have HP9 := hid (HP.out w9 hX9 Hb9.out)
  clear hX9 hb9 HC8 HQ HP
  go_wp2_with fail
  refine HQ9.out.mono ?_
  rintro e w10 ⟨rfl, rfl⟩
  go_wp2_with fail
  refine HP9.out.mono ?_
  rintro e w11 ⟨rfl, hX11, hb11⟩
  have Hb11 := hid (Hb9.out.trans hb11)
  have HY11 := hid (HY.out w11 hX11)
  clear hX11 hb11 HQ9 HP9 HY
  go_wp2_with fail
  refine HY11.out.mono ?_
  rintro e w12 ⟨rfl, hX12, hb12⟩
  have Hb12 := hid (Hb11.out.trans hb12)
  have HR12 := hid (HR.out w12 hX12)
  have HX12 := hid hX12
  clear hX12 hb12 HY11 HR
  simp only [E.val] at HR12
  go_wp2_with fail
  refine HR12.out.mono ?_
  rintro e w13 ⟨rfl, hb13⟩
  have Hb13 := hid (Below.step Hb12.out hb13 Hb12.out.size)
  have HX13 := hid (HX12.out.belowS hb13)
  clear hb13 HR12 HX12
  go_upto_region 31 with fail
  obtain ⟨wz, hwz⟩ : ∃ wz : World, wz = w13.alloc (Obj.cells #[Value.int IntKind.i64 5, Value.int IntKind.i64 ((dl : Int) + 1), Value.int IntKind.i64 nd, Value.bool false, Value.string ⟨#[121]⟩] 34) := ⟨_, rfl⟩
  rw [← hwz]
  have hBz : Blk wz w13.heap.size 34 #[Value.int IntKind.i64 5, Value.int IntKind.i64 ((dl : Int) + 1), Value.int IntKind.i64 nd, Value.bool false, Value.string ⟨#[121]⟩] := by rw [hwz]; exact Blk.new _ _ _
  have hbz : Below w13.heap.size w13 wz := by rw [hwz]; exact (Below.refl _ _).alloc (Nat.le_refl _) _
  have c1 : wz.cell? ⟨w13.heap.size, 1, none⟩ = some (.int .i64 ((dl : Int) + 1)) := hBz.cell 1
  have c4 : wz.cell? ⟨w13.heap.size, 4, none⟩ = some (.string ⟨#[121]⟩) := hBz.cell 4
  have hlz := hBz.lt
  have Hbz := hid (Below.step Hb13.out hbz Hb13.out.size)
  have HBz := hid (HB.out wz (HX13.out.belowS hbz))
  have HZz := hid (HZ.out wz (HX13.out.belowS hbz))
  have hwr : wrap64 ((dl : Int) + 1) = (dl : Int) + 1 := by unfold wrap64; omega
  clear hwz hBz hbz HB HZ HX13
  go_wp2_with fail
  refine HZz.out.mono ?_
  rintro e wy ⟨rfl, rfl⟩
  go_wp2_with fail
  refine HBz.out.mono ?_
  rintro e wy ⟨rfl, rfl⟩
  go_wp2_with fail
  go_ret
  exact ⟨rfl, Hbz.out⟩

set_option maxRecDepth 100000 in
theorem logStops_walk : LawWalk Tryz.prog 3 Tryz.f3 Tv := by
  intro W base args H enc ds p hval hA hgl
  rw [Tryz.params3] at hA hval
  obtain ⟨v0, v1, v2, d0, d1, d2, p0, p1, p2, rfl, rfl, rfl, h0, h1, h2⟩ := trodAll_three hA
  obtain ⟨a, rfl, _⟩ := arg_int Tryz.underlying3 (hval 0 3 v0 rfl rfl) h0
  obtain ⟨m, rfl, _⟩ := arg_int Tryz.underlying3 (hval 1 3 v1 rfl rfl) h1
  obtain ⟨k, rfl, hk⟩ := arg_int Tryz.underlying3 (hval 2 3 v2 rfl rfl) h2
  exact logStops_any a m k hk W hgl

set_option maxRecDepth 100000 in
theorem logStops_lifted (os : Os) (started : os.Started) (H : Type) (enc : TypeId × Value → H) :
    ReturnsInHanded {} Tryz.checked os 3 .any (fun w args => (Rows.logStopsSpec.pre enc Tryz.checked.prog Tryz.f3 [] false w args ∧ laidMetH Tryz.prog laid8 w) ∧ sizedMet enc Tryz.checked.prog Tryz.f3 (OpenSpec.ofChange Rows.logStopsSpec) false w args) (Rows.logStopsSpec.post enc Tryz.checked.prog Tryz.f3 false true false false) :=
  laid_lifted (C := Tryz.checked) laid8 (fun _ h => tb_of_laid8 h) [] Tryz.own started (by kernel_rfl) Tryz.func3 Tryz.laidOut (by kernel_rfl) rfl Tryz.underlying4 rfl (fun ds h => by match ds, h with | [_, _, _], _ => rfl)
    (ChangeSpec.witness_shaped (enc := enc) (C := Tryz.checked) (os := os) (X := fun w _ => laidMetH Tryz.prog laid8 w) false (World.doorLaid Tryz.prog 4000 os) #[.int .i64 0, .int .i64 0, .int .i64 0] 8 rfl (World.shaped_of_RefB (by kernel_rfl) (by kernel_rfl)) (by kernel_rfl) (by kernel_rfl) (by kernel_rfl) (door_met8 os _)) logStops_walk

theorem logStops_row : Rows.LogStopsSaid :=
  OpenClaim.holds_of_wide 3 Tryz.f3 rfl rfl rfl rfl rfl rfl rfl ⟨rfl, rfl, rfl, rfl, rfl⟩ rfl rfl rfl rfl rfl (by kernel_rfl) Tryz.func3 (by kernel_rfl)
    (of_decide_eq_true (by kernel_rfl)) (by unfold Func.isWrapper; rw [if_neg (of_decide_eq_false (by kernel_rfl))]; exact ⟨rfl, rfl⟩)
    (fun os started H enc _ => logStops_lifted os started H enc)

theorem logStops_holds : Rows.LogStopsCardSaid :=
  Claim7.holds_tied_plain_at .later [] [.data, .data, .data, .handle, .sentinel, .sentinel, .listed, .data] true _ true
    logStops_row (fun _ h => by cases h) (by kernel_rfl) (fun _ h => by cases h) logStops_row_tie rfl ⟨rfl, rfl⟩ (by kernel_rfl) rfl
    (fun f fn hf hfn => by
      obtain rfl : f = 3 := Option.some.inj ((show Tryz.prog.funcNamed "beaconmere/merelaw3.LogStops" = some 3 by kernel_rfl).symm.trans hf) |>.symm
      obtain rfl : fn = Tryz.f3 := (Option.some.inj (Tryz.func3.symm.trans hfn)).symm
      refine ⟨by kernel_rfl, fun j t ht => ?_⟩
      have hall : Tryz.f3.params.toList.all (fun t => !Tryz.prog.wantsStandIn t) = true := by kernel_rfl
      have hm : t ∈ Tryz.f3.params.toList := by
        obtain ⟨hj, hje⟩ := Array.getElem?_eq_some_iff.1 ht
        rw [← hje]
        exact Array.mem_toList_iff.2 (Array.getElem_mem hj)
      have := List.all_eq_true.1 hall t hm
      exact (show Tryz.prog.wantsStandIn t = false by simpa using this))
    (by kernel_rfl)

end Go.Proofs.YtljkclebcoanaaaGreatDoor

