/-
  PROVED HERE: merelaw2.RepairAll returns true: behind a repair each cache has what was read, none lacks it, and reading again tells the same; of choices that meet one of any r has what any w wrote. CONDITIONS: none.
-/
import Derived.Test.YtdocdmpfokdjkaaRepair2
import Derived.Test.YtdocdmpfokdjkaaMeet
import Derived.Test.YtdocdmpfokdjkaaChoice
import Derived.Test.YtdocdmpfokdjkaaCGet
import Derived.Deep.CutBlock
import Derived.Deep.DeepCutAuto
namespace Go.Proofs.Ytdocdmpfokdjkaa
open Go.RowKit
open Go.ChangeShapes Go.WideShapes Go.ChangeAt

def e256 : E := ⟨2, 5, 6, false, ⟨#[120]⟩⟩
theorem e256_chk : chk e256 = 0 := by decide +kernel
theorem e256_val : chkC [e256] = 0 := val_iff.2 ⟨by unfold Asc; simp, fun e he => by rw [List.mem_singleton.1 he]; exact e256_chk⟩
theorem nil_val : chkC [] = 0 := by decide +kernel
theorem lacks_fact (A B : Option Addr) (c d : Nat) : lacksR [⟨B, d, []⟩, ⟨A, c, [e256]⟩] 2 = ([0], 0) := by
  have hR : readR [⟨B, d, []⟩, ⟨A, c, [e256]⟩] 2 = (e256, 0) := by
    rw [readR, if_pos (chkTK_mk (by simp) (by simp) (fun x hx => by
      rcases List.mem_cons.1 hx with rfl | hx
      · exact nil_val
      · rw [List.mem_singleton.1 hx]; exact e256_val) (by decide)), readG_cons _ _ _ _ _ nil_val]
    simp only [lk_nil]
    rw [readG_cons _ _ _ _ _ e256_val, lk_cons, if_pos (show e256.key = 2 from rfl)]
    simp only
    rw [if_neg (by decide), readG, if_pos rfl]
  rw [lacksR, hR, if_pos rfl, lacksF, lacksB]
  simp only [lk_nil]
  rw [if_pos trivial, lacksF, lacksB, lk_cons, if_pos (show e256.key = 2 from rfl)]
  simp only
  rw [if_neg (by decide), lacksF]
  rfl
/-- the fact's two caches -/
theorem fact_at (w : World) : CachesAt ((w.alloc (.cells #[.int .i64 2, .int .i64 5, .int .i64 6, .bool false, .string ⟨#[120]⟩] 47)).alloc (.cells #[.slice none 0 0, .slice (some ⟨w.heap.size, 0, none⟩) 1 1] 52)) ⟨some ⟨w.heap.size + 1, 0, none⟩, 2, [⟨none, 0, []⟩, ⟨some ⟨w.heap.size, 0, none⟩, 1, [e256]⟩]⟩ := by
  have hB : Blk ((w.alloc (.cells #[.int .i64 2, .int .i64 5, .int .i64 6, .bool false, .string ⟨#[120]⟩] 47)).alloc (.cells #[.slice none 0 0, .slice (some ⟨w.heap.size, 0, none⟩) 1 1] 52)) (w.heap.size + 1) 52 (([⟨none, 0, []⟩, ⟨some ⟨w.heap.size, 0, none⟩, 1, [e256]⟩] : List (SlV E)).map SlV.val).toArray := Blk.new_at (by simp)
  refine (SsAt.of_blk hB 2 (by unfold maxLen; simp)).caches (fun x hx => ?_)
  rcases List.mem_cons.1 hx with rfl | hx
  · exact EntriesAt.empty _
  · rw [List.mem_singleton.1 hx]
    refine EsAt.entries ⟨fun _ => ⟨w.heap.size, 0, rfl, by simp; omega, fun i hi => ?_⟩, fun y hy => by rw [List.mem_singleton.1 hy]; exact chk_goodE e256_chk, by unfold maxLen; simp⟩
    obtain rfl : i = 0 := by simpa using hi
    exact EAt.of_blk ((Blk.new w _ _).alloc _)

set_option maxHeartbeats 16000000 in
set_option maxRecDepth 100000 in
theorem repairAll_any (s : SlV (SlV E)) (k n : Int) (r v : SlV Int) (w : World) (hs : CachesAt w s) (hr : IntsAt w r) (hv : IntsAt w v) :
    Calls Try.prog 5 #[.slice s.A s.xs.length s.c, .int .i64 k, .int .i64 n, .slice r.A r.xs.length r.c, .slice v.A v.xs.length v.c] w fun e w' => e = .returned (.bool true) ∧ Below w.heap.size w w' := by
  have hlr := hr.len
  have hlv := hv.len
  unfold maxLen at hlr hlv
  have Hr := hid (fun W (hW : Below w.heap.size w W) => hr.stays0 hW)
  have Hv := hid (fun W (hW : Below w.heap.size w W) => hv.stays0 hW)
  have HRd := hid (fun W (hW : Below w.heap.size w W) => read_any s k W (hs.stays hW))
  have HWr := hid (fun W (hW : Below w.heap.size w W) => write_any s k W (hs.stays hW))
  have HF := hid (lacks_any _ 2 _ (fact_at w))
  rw [lacks_fact, errV_zero] at HF
  simp only [List.length_cons, List.length_nil] at HF
  clear hs hr hv
  go_enter Try.func5, Try.ntmps5
  go_wp2_with fail
  refine HF.out.mono ?_
  rintro e w1 ⟨f, rfl, hfx, hfA, hb1⟩
  have Hb1 := hid (Below.step (((Below.refl w.heap.size w).alloc (Nat.le_refl _) (.cells #[.int .i64 2, .int .i64 5, .int .i64 6, .bool false, .string ⟨#[120]⟩] 47)).alloc (by simp) (.cells #[.slice none 0 0, .slice (some ⟨w.heap.size, 0, none⟩) 1 1] 52)) hb1 (by simp; omega))
  have hz1 := Hb1.out.size
  obtain ⟨fb, fo, hfAA, hfb, hfc⟩ := hfA.row (by rw [hfx]; decide)
  have hf0 := hfc 0 (by rw [hfx]; decide)
  rw [hfx] at hf0
  have hf0' : w1.cell? ⟨fb, fo, none⟩ = some (.int .i64 0) := hf0
  have hfl : f.xs.length = 1 := by rw [hfx]; rfl
  rw [hfl, hfAA]
  clear hb1 hfc hf0 hfA hfx hfl hfAA HF
  go_upto_region 3 with fail
  go_cut [55] (fun t wx => t = .bool false ∧ wx = w1)
  case first =>
    go_wp2_with fail
    go_meet
    exact ⟨rfl, rfl⟩
  case rest =>
  obtain ⟨rfl, hwc⟩ := hcut
  obtain rfl : w1 = wc := hwc.symm
  have HR1 := hid (HRd.out w1 Hb1.out)
  obtain ⟨R, hRe⟩ : ∃ R, readR s.xs k = R := ⟨_, rfl⟩
  rw [hRe] at HR1 HWr
  have HRe := hid hRe
  clear hRe hf0' HRd
  obtain ⟨⟨x0, x1, x2, x3, x4⟩, en⟩ := R
  obtain ⟨ev, hev⟩ : ∃ ev, errV en = ev := ⟨_, rfl⟩
  simp only [E.val] at HR1 HWr
  rw [hev] at HR1 HWr
  have Hev := hid hev
  clear hev
  go_wp2_with fail
  refine HR1.out.mono ?_
  rintro e w2 ⟨rfl, hb2⟩
  have hb2' := Below.step Hb1.out hb2 hz1
  go_upto_region 6 with fail
  obtain ⟨w3, hw3⟩ : ∃ W : World, W = w2.alloc (.cells #[.int .i64 x0, .int .i64 x1, .int .i64 x2, .bool x3, .string x4] 47) := ⟨_, rfl⟩
  rw [← hw3]
  have HX3 := hid (show Blk w3 w2.heap.size 47 #[.int .i64 x0, .int .i64 x1, .int .i64 x2, .bool x3, .string x4] by rw [hw3]; exact Blk.new _ _ _)
  have Hb3 := hid (show Below w.heap.size w w3 by rw [hw3]; exact hb2'.alloc hb2'.size _)
  have hz3 := Hb3.out.size
  clear hw3 hb2 hb2' HR1
  have HEv := hid (show (en = 0 ∧ ev = .nilIface) ∨ (en ≠ 0 ∧ ev = .iface 69 (.int .i64 en)) from by
    rw [← Hev.out]
    by_cases h : en = 0
    · exact .inl ⟨h, by rw [h]; rfl⟩
    · exact .inr ⟨h, errV_ne h⟩)
  clear Hev
  obtain ⟨tb, htb⟩ : ∃ tb, tb = decide (en = 0) := ⟨_, rfl⟩
  have Htb := hid htb
  clear htb
  go_cut [63] (fun t wx => t = .bool tb ∧ wx = w3)
  case first =>
    rcases HEv.out with ⟨h, rfl⟩ | ⟨h, rfl⟩
    · have HT := hid (show tb = true by rw [Htb.out]; exact decide_eq_true h)
      clear h
      go_wp2_with fail
      go_meet
      exact ⟨by rw [HT.out], rfl⟩
    · have HT := hid (show tb = false by rw [Htb.out]; exact decide_eq_false h)
      clear h
      go_wp2_with fail
      go_meet
      exact ⟨by rw [HT.out], rfl⟩
  case rest =>
  obtain ⟨rfl, hwc⟩ := hcut
  obtain rfl : w3 = wc := hwc.symm
  go_upto_if 63 with fail
  go_cut [] (fun wx => Below w.heap.size w wx)
  case first =>
    as_aux_lemma =>
    rcases tb with _ | _
    · go_wp2_with fail
      go_meet
      exact Hb3.out
    · have hen : en = 0 := of_decide_eq_true Htb.out.symm
      subst hen
      have hev : ev = .nilIface := by
        rcases HEv.out with ⟨_, h⟩ | ⟨h, _⟩
        · exact h
        · exact absurd rfl h
      subst hev
      obtain ⟨hckt, _⟩ := readR_zero HRe.out
      obtain ⟨⟨h1, h6⟩, _, hkB⟩ := chkTK_ok hckt
      obtain ⟨hcx, hxk, hadd⟩ := repair_add HRe.out
      have Hadd := hid hadd
      have HkB := hid hkB
      have HWL := hid (show writeL s.xs k = s.xs.map (fun c => (addC c.xs ⟨x0, x1, x2, x3, x4⟩).1) by rw [writeL, HRe.out, if_pos rfl])
      have HW3 := hid (HWr.out w3 Hb3.out)
      clear hckt hkB hcx hxk hadd HWr
      go_wp2_with fail
      refine HW3.out.mono ?_
      rintro e w4 ⟨y, rfl, hy, hb4⟩
      obtain ⟨m, rfl, hmx, hmA, -⟩ := hy.caches
      have hml : m.xs.length = s.xs.length := by
        have := congrArg List.length hmx
        rw [HWL.out, List.length_map, List.length_map] at this
        exact this
      have Hm := hid (show ∀ c ∈ m.xs, chkC c.xs = 0 ∧ lk c.xs k = some ⟨x0, x1, x2, x3, x4⟩ from fun c hc => by
        have hc' : c.xs ∈ m.xs.map SlV.xs := List.mem_map.2 ⟨c, hc, rfl⟩
        rw [hmx, HWL.out] at hc'
        obtain ⟨d, hd, he⟩ := List.mem_map.1 hc'
        rw [← he]
        exact (Hadd.out d hd).2)
      have hRm := read_all (k := k) (x := ⟨x0, x1, x2, x3, x4⟩) (m := m.xs) (by omega) (by omega) Hm.out HkB.out
      have hLm : lacksR m.xs k = ([], 0) := by
        rw [lacksR, hRm, if_pos rfl, lacksF_none (x := ⟨x0, x1, x2, x3, x4⟩) 0 (fun c hc => (Hm.out c hc).2)]
      have Hb34 := hid hb4
      have Hb4 := hid (Below.step Hb3.out hb4 hz3)
      have hz4 := Hb4.out.size
      have HmA := hid (fun W (hW : Below w4.heap.size w4 W) => hmA.stays hW)
      have HRm := hid (read_any m k w4 hmA)
      rw [hRm] at HRm
      have HLm := hid (fun W (hW : Below w4.heap.size w4 W) => lacks_any m k W (hmA.stays hW))
      rw [hLm] at HLm
      simp only [E.val] at HRm HLm
      rw [errV_zero] at HRm HLm
      have hml6 : m.xs.length ≤ 6 := by omega
      have Hml := hid hml
      clear hy hmx hmA hRm hLm hb4 HW3 hml
      go_upto_region 8 with fail
      go_cut [78] (fun t wx => t = .bool false ∧ wx = w4)
      case first =>
        have hmb : ((m.xs.length : Int) != (s.xs.length : Int)) = false := by rw [Hml.out]; simp
        go_wp2_with fail
        go_meet
        exact ⟨rfl, rfl⟩
      case rest =>
      obtain ⟨rfl, hwc⟩ := hcut
      obtain rfl : w4 = wc := hwc.symm
      go_wp2_with fail
      refine HRm.out.mono ?_
      rintro e w5 ⟨rfl, hb5⟩
      have Hb45 := hid hb5
      clear hb5 HRm
      go_upto_region 11 with fail
      obtain ⟨w6, hw6⟩ : ∃ W : World, W = w5.alloc (.cells #[.int .i64 x0, .int .i64 x1, .int .i64 x2, .bool x3, .string x4] 47) := ⟨_, rfl⟩
      rw [← hw6]
      have HY6 := hid (show Blk w6 w5.heap.size 47 #[.int .i64 x0, .int .i64 x1, .int .i64 x2, .bool x3, .string x4] by rw [hw6]; exact Blk.new _ _ _)
      have Hb46 := hid (show Below w4.heap.size w4 w6 by rw [hw6]; exact Hb45.out.alloc Hb45.out.size _)
      clear hw6
      have HL6 := hid (HLm.out w6 Hb46.out)
      go_wp2_with fail
      refine HL6.out.mono ?_
      rintro e w7 ⟨q, rfl, hqx, -, hb7⟩
      have hql : q.xs.length = 0 := by rw [hqx]; rfl
      rw [hql]
      have Hb47 := hid (Below.step Hb46.out hb7 Hb46.out.size)
      have HY7 := hid (HY6.out.belowS hb7)
      have HX7 := hid (HX3.out.belowS (Below.step Hb34.out Hb47.out Hb34.out.size))
      clear hb7 hql hqx HL6 HLm
      go_upto_region 12 with fail
      go_cut [106] (fun t wx => t = .bool false ∧ wx = w7)
      case first =>
        have c0 : w7.cell? ⟨w2.heap.size, 0, none⟩ = some (.int .i64 x0) := HX7.out.cell 0
        have c1 : w7.cell? ⟨w2.heap.size, 1, none⟩ = some (.int .i64 x1) := HX7.out.cell 1
        have c2 : w7.cell? ⟨w2.heap.size, 2, none⟩ = some (.int .i64 x2) := HX7.out.cell 2
        have c3 : w7.cell? ⟨w2.heap.size, 3, none⟩ = some (.bool x3) := HX7.out.cell 3
        have c4 : w7.cell? ⟨w2.heap.size, 4, none⟩ = some (.string x4) := HX7.out.cell 4
        have d0 : w7.cell? ⟨w5.heap.size, 0, none⟩ = some (.int .i64 x0) := HY7.out.cell 0
        have d1 : w7.cell? ⟨w5.heap.size, 1, none⟩ = some (.int .i64 x1) := HY7.out.cell 1
        have d2 : w7.cell? ⟨w5.heap.size, 2, none⟩ = some (.int .i64 x2) := HY7.out.cell 2
        have d3 : w7.cell? ⟨w5.heap.size, 3, none⟩ = some (.bool x3) := HY7.out.cell 3
        have d4 : w7.cell? ⟨w5.heap.size, 4, none⟩ = some (.string x4) := HY7.out.cell 4
        have heq := fun W => eqRunE x0 x1 x2 x3 x4 x0 x1 x2 x3 x4 W
        rw [eqbE_refl] at heq
        have hl1 := HX7.out.lt
        have hl2 := HY7.out.lt
        go_wp2_with fail
        go_meet
        exact ⟨rfl, rfl⟩
      case rest =>
      obtain ⟨rfl, hwc⟩ := hcut
      obtain rfl : w7 = wc := hwc.symm
      have Hb7 := hid (Below.step Hb4.out Hb47.out hz4)
      have HXr := hid (fun W (hW : Below w7.heap.size w7 W) => HX7.out.belowS hW)
      have HmA7 := hid (fun W (hW : Below w7.heap.size w7 W) => HmA.out W (Below.step Hb47.out hW Hb47.out.size))
      clear HY6 HY7 HX7 HmA
      go_wp2_with fail
      go_loopw [22] (fun i wr => ∃ j : Nat, j ≤ m.xs.length ∧ i = .int .i64 j ∧ Below w7.heap.size w7 wr) (fun i _ => m.xs.length - (intOf i).toNat)
      case atStart => exact ⟨0, Nat.zero_le _, rfl, Below.refl _ _⟩
      case round =>
        obtain ⟨j, hj, rfl, hbr⟩ := hrel
        have hz0 := hbr.size
        have Hbr := hid hbr
        by_cases hlt : j < m.xs.length
        · have hmm := HmA7.out wr hbr
          obtain ⟨b, off, hA, hb, hcells⟩ := hmm.row (by omega)
          have hcell := hcells j hlt
          have hin := hmm.each j hlt
          obtain ⟨hcc, hck⟩ := Hm.out _ (List.getElem_mem hlt)
          generalize m.xs[j] = c at *
          have hG := get_any c k wr hin
          rw [getR, if_pos hcc, if_pos HkB.out] at hG
          rw [at_lk (val_iff.1 hcc).1] at hck
          have hhk : hasK k c.xs = true := by
            rcases hh : hasK k c.xs with _ | _
            · rw [hh, if_neg (by decide)] at hck; cases hck
            · rfl
          rw [hhk, if_pos rfl] at hck
          injection hck with hck
          rw [if_pos hhk, hck] at hG
          simp only [E.val] at hG
          rw [errV_zero] at hG
          have HG := hid hG
          rw [hA]
          clear hA hcells hmm hin hcc hck hG hhk hbr
          go_wp2_with fail
          refine HG.out.mono ?_
          rintro e w8 ⟨rfl, hb8⟩
          have hb78 := Below.step Hbr.out hb8 hz0
          clear hcell HG
          go_upto_region 18 with fail
          obtain ⟨w9, hw9⟩ : ∃ W : World, W = w8.alloc (.cells #[.int .i64 x0, .int .i64 x1, .int .i64 x2, .bool x3, .string x4] 47) := ⟨_, rfl⟩
          rw [← hw9]
          have hY9 : Blk w9 w8.heap.size 47 #[.int .i64 x0, .int .i64 x1, .int .i64 x2, .bool x3, .string x4] := by rw [hw9]; exact Blk.new _ _ _
          have Hb9 := hid (show Below w7.heap.size w7 w9 by rw [hw9]; exact hb78.alloc hb78.size _)
          have hX9 := HXr.out w9 Hb9.out
          clear hw9 hb8 hb78
          go_cut [128] (fun t wx => t = .bool false ∧ wx = w9)
          case first =>
            have c0 : w9.cell? ⟨w2.heap.size, 0, none⟩ = some (.int .i64 x0) := hX9.cell 0
            have c1 : w9.cell? ⟨w2.heap.size, 1, none⟩ = some (.int .i64 x1) := hX9.cell 1
            have c2 : w9.cell? ⟨w2.heap.size, 2, none⟩ = some (.int .i64 x2) := hX9.cell 2
            have c3 : w9.cell? ⟨w2.heap.size, 3, none⟩ = some (.bool x3) := hX9.cell 3
            have c4 : w9.cell? ⟨w2.heap.size, 4, none⟩ = some (.string x4) := hX9.cell 4
            have d0 : w9.cell? ⟨w8.heap.size, 0, none⟩ = some (.int .i64 x0) := hY9.cell 0
            have d1 : w9.cell? ⟨w8.heap.size, 1, none⟩ = some (.int .i64 x1) := hY9.cell 1
            have d2 : w9.cell? ⟨w8.heap.size, 2, none⟩ = some (.int .i64 x2) := hY9.cell 2
            have d3 : w9.cell? ⟨w8.heap.size, 3, none⟩ = some (.bool x3) := hY9.cell 3
            have d4 : w9.cell? ⟨w8.heap.size, 4, none⟩ = some (.string x4) := hY9.cell 4
            have heq := fun W => eqRunE x0 x1 x2 x3 x4 x0 x1 x2 x3 x4 W
            rw [eqbE_refl] at heq
            have hl1 := hX9.lt
            have hl2 := hY9.lt
            clear hX9 hY9
            go_wp2_with fail
            go_meet
            exact ⟨rfl, rfl⟩
          case rest =>
          obtain ⟨rfl, hwc⟩ := hcut
          obtain rfl : w9 = wc := hwc.symm
          clear hX9 hY9
          go_wp2_with fail
          go_roundw
          case rel => exact ⟨j + 1, by omega, by go_num, Hb9.out⟩
          case measure => simp [intOf]; omega
        · go_wp2_with fail
          go_meet
          exact Below.step Hb7.out hbr Hb7.out.size
  case rest =>
  have hb4 := hcut
  obtain ⟨w4, rfl⟩ : ∃ w4 : World, w4 = wc := ⟨_, rfl⟩
  have Hb4 := hid hb4
  have hz4 := hb4.size
  clear hb4 hcut HX3 HWr HEv
  rcases (show n < 1 ∨ (¬ n < 1 ∧ 6 < n) ∨ (¬ n < 1 ∧ ¬ 6 < n) by omega) with h | ⟨h1, h⟩ | ⟨h1, h2⟩
  · go_wp2_with fail
    go_ret
    exact ⟨rfl, Hb4.out⟩
  · go_wp2_with fail
    go_ret
    exact ⟨rfl, Hb4.out⟩
  obtain ⟨N, rfl⟩ := Int.eq_ofNat_of_zero_le (show 0 ≤ n by omega)
  have hN6 : N ≤ 6 := by omega
  have hB0 := hid (show Blk ((w4.alloc (.cells (bools [false, false, false, false, false, false]) 64)).alloc (.cells (bools [false, false, false, false, false, false]) 64)) w4.heap.size 64 (bools [false, false, false, false, false, false]) from (Blk.new _ _ _).alloc _)
  have hB1 := hid (show Blk ((w4.alloc (.cells (bools [false, false, false, false, false, false]) 64)).alloc (.cells (bools [false, false, false, false, false, false]) 64)) (w4.heap.size + 1) 64 (bools [false, false, false, false, false, false]) from Blk.new_at (by simp))
  have hbX := hid (show Below w.heap.size w ((w4.alloc (.cells (bools [false, false, false, false, false, false]) 64)).alloc (.cells (bools [false, false, false, false, false, false]) 64)) from (Hb4.out.alloc hz4 _).alloc (by simp; omega) _)
  have hlow0 : ∀ M, Low M [false, false, false, false, false, false] := fun M j hj => by
    rcases (show j = 0 ∨ j = 1 ∨ j = 2 ∨ j = 3 ∨ j = 4 ∨ j = 5 ∨ 6 ≤ j by omega) with rfl | rfl | rfl | rfl | rfl | rfl | h6
    · cases hj
    · cases hj
    · cases hj
    · cases hj
    · cases hj
    · cases hj
    · rw [List.getD_eq_getElem?_getD, List.getElem?_eq_none (by simpa using h6)] at hj; cases hj
  have Hlow0 := hid hlow0
  clear hlow0
  go_wp2_with fail
  go_loopw [27, 29] (fun p i wr => ∃ (j : Nat) (la : List Bool), j ≤ r.xs.length ∧ i = .int .i64 j ∧ la.length = 6 ∧ Low N la ∧ p = .int .i64 (cnt la : Nat) ∧ Blk wr w4.heap.size 64 (bools la) ∧ Blk wr (w4.heap.size + 1) 64 (bools [false, false, false, false, false, false]) ∧ Below w.heap.size w wr) (fun _ i _ => r.xs.length - (intOf i).toNat)
  case atStart => exact ⟨0, [false, false, false, false, false, false], Nat.zero_le _, rfl, rfl, Hlow0.out N, rfl, hB0.out, hB1.out, hbX.out⟩
  case round =>
    obtain ⟨j, la, hj, rfl, hla, hlow, rfl, hBa, hBb, hbr⟩ := hrel
    have hz0 := hbr.size
    have hca := hlow.cnt
    have Hla := hid hla
    have Hlow := hid hlow
    have HBa := hid hBa
    have HBb := hid hBb
    have Hbr := hid hbr
    have hlBa := hBa.lt
    have hlBb := hBb.lt
    by_cases hlt : j < r.xs.length
    · have hrr := Hr.out wr hbr
      obtain ⟨b, off, hA, hb, hcells⟩ := hrr.row (by omega)
      have hcell := hcells j hlt
      generalize r.xs.getD j 0 = y at *
      rw [hA]
      clear hA hcells hrr hla hlow hBb hbr
      by_cases hy0 : 0 ≤ y
      · by_cases hyN : y < (N : Int)
        · obtain ⟨t, rfl⟩ := Int.eq_ofNat_of_zero_le hy0
          have ht : t < N := by omega
          have ht6 : (t : Int) < 6 := by omega
          have hca0 : wr.cell? ⟨w4.heap.size, t, none⟩ = some (.bool (la.getD t false)) := (hBa.cell t).trans (bools_get la t (by rw [Hla.out]; omega))
          have hfa := hBa.frozen t
          rcases hg : la.getD t false with _ | _
          · rw [hg] at hca0
            have Hset := hid (cnt_set la t (by rw [Hla.out]; omega) hg)
            have HB2 := hid (show Blk (wr.setCell ⟨w4.heap.size, t, none⟩ (.bool true)) w4.heap.size 64 (bools (la.set t true)) by rw [← bools_set]; exact HBa.out.put t _)
            have HC2 := hid (HBb.out.far (p := ⟨w4.heap.size, t, none⟩) (show w4.heap.size + 1 ≠ w4.heap.size by omega) (.bool true))
            have Hb2 := hid (Hbr.out.setCell (p := ⟨w4.heap.size, t, none⟩) hz4 (.bool true))
            have HL2 := hid (Hlow.out.set (i := t) ht)
            clear hg hBa
            go_wp2_with fail
            go_roundw
            case rel => exact ⟨j + 1, la.set t true, by omega, by go_num, by rw [List.length_set]; exact Hla.out, HL2.out, by rw [Hset.out]; go_num, HB2.out, HC2.out, Hb2.out⟩
            case measure => simp [intOf]; omega
          · rw [hg] at hca0
            clear hg hBa
            go_wp2_with fail
            go_roundw
            case rel => exact ⟨j + 1, la, by omega, by go_num, Hla.out, Hlow.out, rfl, HBa.out, HBb.out, Hbr.out⟩
            case measure => simp [intOf]; omega
        · clear hBa
          go_wp2_with fail
          go_roundw
          case rel => exact ⟨j + 1, la, by omega, by go_num, Hla.out, Hlow.out, rfl, HBa.out, HBb.out, Hbr.out⟩
          case measure => simp [intOf]; omega
      · clear hBa
        go_wp2_with fail
        go_roundw
        case rel => exact ⟨j + 1, la, by omega, by go_num, Hla.out, Hlow.out, rfl, HBa.out, HBb.out, Hbr.out⟩
        case measure => simp [intOf]; omega
    · clear hla hlow hBa hBb hbr
      have HbrA := Hbr
      go_wp2_with fail
      go_loopw [28, 30] (fun p i wq => ∃ (j : Nat) (lb : List Bool), j ≤ v.xs.length ∧ i = .int .i64 j ∧ lb.length = 6 ∧ Low N lb ∧ p = .int .i64 (cnt lb : Nat) ∧ Blk wq w4.heap.size 64 (bools la) ∧ Blk wq (w4.heap.size + 1) 64 (bools lb) ∧ Below w.heap.size w wq) (fun _ i _ => v.xs.length - (intOf i).toNat)
      case atStart => exact ⟨0, [false, false, false, false, false, false], Nat.zero_le _, rfl, rfl, Hlow0.out N, rfl, HBa.out, HBb.out, Hbr.out⟩
      case round =>
        obtain ⟨j, lb, hj, rfl, hla2, hlow, rfl, hBa, hBb, hbr⟩ := hrel
        have hz0 := hbr.size
        have hcb := hlow.cnt
        have Hlb := hid hla2
        have Hlowb := hid hlow
        have HBa := hid hBa
        have HBb := hid hBb
        have Hbr := hid hbr
        have hlBa := hBa.lt
        have hlBb := hBb.lt
        by_cases hlt : j < v.xs.length
        · have hrr := Hv.out wr hbr
          obtain ⟨b, off, hA, hb, hcells⟩ := hrr.row (by omega)
          have hcell := hcells j hlt
          generalize v.xs.getD j 0 = y at *
          rw [hA]
          clear hA hcells hrr hla2 hlow hBa hbr
          by_cases hy0 : 0 ≤ y
          · by_cases hyN : y < (N : Int)
            · obtain ⟨t, rfl⟩ := Int.eq_ofNat_of_zero_le hy0
              have ht : t < N := by omega
              have ht6 : (t : Int) < 6 := by omega
              have hca0 : wr.cell? ⟨w4.heap.size + 1, t, none⟩ = some (.bool (lb.getD t false)) := (hBb.cell t).trans (bools_get lb t (by rw [Hlb.out]; omega))
              have hfa := hBb.frozen t
              rcases hg : lb.getD t false with _ | _
              · rw [hg] at hca0
                have Hset := hid (cnt_set lb t (by rw [Hlb.out]; omega) hg)
                have HB2 := hid (show Blk (wr.setCell ⟨w4.heap.size + 1, t, none⟩ (.bool true)) (w4.heap.size + 1) 64 (bools (lb.set t true)) by rw [← bools_set]; exact HBb.out.put t _)
                have HC2 := hid (HBa.out.far (p := ⟨w4.heap.size + 1, t, none⟩) (show w4.heap.size ≠ w4.heap.size + 1 by omega) (.bool true))
                have Hb2 := hid (Hbr.out.setCell (p := ⟨w4.heap.size + 1, t, none⟩) (show w.heap.size ≤ w4.heap.size + 1 by omega) (.bool true))
                have HL2 := hid (Hlowb.out.set (i := t) ht)
                clear hg hBb
                go_wp2_with fail
                go_roundw
                case rel => exact ⟨j + 1, lb.set t true, by omega, by go_num, by rw [List.length_set]; exact Hlb.out, HL2.out, by rw [Hset.out]; go_num, HC2.out, HB2.out, Hb2.out⟩
                case measure => simp [intOf]; omega
              · rw [hg] at hca0
                clear hg hBb
                go_wp2_with fail
                go_roundw
                case rel => exact ⟨j + 1, lb, by omega, by go_num, Hlb.out, Hlowb.out, rfl, HBa.out, HBb.out, Hbr.out⟩
                case measure => simp [intOf]; omega
            · clear hBb
              go_wp2_with fail
              go_roundw
              case rel => exact ⟨j + 1, lb, by omega, by go_num, Hlb.out, Hlowb.out, rfl, HBa.out, HBb.out, Hbr.out⟩
              case measure => simp [intOf]; omega
          · clear hBb
            go_wp2_with fail
            go_roundw
            case rel => exact ⟨j + 1, lb, by omega, by go_num, Hlb.out, Hlowb.out, rfl, HBa.out, HBb.out, Hbr.out⟩
            case measure => simp [intOf]; omega
        · have hMe := meet_ways (N : Int) (cnt la : Nat) (cnt lb : Nat) wr
          rw [show meetE (N : Int) (cnt la : Nat) (cnt lb : Nat) = 0 by unfold meetE; rw [if_neg (by omega)], errV_zero] at hMe
          obtain ⟨mb, hmb⟩ : ∃ mb, decide ((0 : Int) = 0 ∧ (N : Int) < (cnt la : Nat) + (cnt lb : Nat)) = mb := ⟨_, rfl⟩
          rw [hmb] at hMe
          have HMe := hid hMe
          have Hmeet := hid (show mb = true → someB la lb N = true from fun h => by
            rw [← hmb] at h
            have := (of_decide_eq_true h).2
            exact meet_some Hlow.out Hlowb.out (by rw [Hla.out, Hlb.out]) (by omega))
          obtain ⟨wq, rfl⟩ : ∃ wq : World, wq = wr := ⟨_, rfl⟩
          clear hla2 hlow hBa hBb hbr hMe hmb
          go_wp2_with fail
          refine HMe.out.mono ?_
          rintro e w5 ⟨rfl, hb5⟩
          have HBa5 := hid (HBa.out.belowS hb5)
          have HBb5 := hid (HBb.out.belowS hb5)
          have Hb5 := hid (Below.step Hbr.out hb5 hz0)
          have hl5a := HBa5.out.lt
          have hl5b := HBb5.out.lt
          clear hb5 HMe
          go_wp2_with fail
          go_loopw [33, 34] (fun sv i wk => ∃ j : Nat, j ≤ N ∧ i = .int .i64 j ∧ sv = .bool (someB la lb j) ∧ wk = w5) (fun _ i _ => N - (intOf i).toNat)
          case atStart => exact ⟨0, Nat.zero_le _, rfl, rfl, rfl⟩
          case round =>
            obtain ⟨j2, hj2, rfl, rfl, hwk⟩ := hrel
            obtain rfl : w5 = wr := hwk.symm
            by_cases hlt2 : j2 < N
            · have h26 : (j2 : Int) < 6 := by omega
              have h2N : (j2 : Int) < (N : Int) := by omega
              have Hs := hid (someB_succ la lb j2)
              have ca : w5.cell? ⟨w4.heap.size, j2, none⟩ = some (.bool (la.getD j2 false)) := (HBa5.out.cell j2).trans (bools_get la j2 (by rw [Hla.out]; omega))
              have cb : w5.cell? ⟨w4.heap.size + 1, j2, none⟩ = some (.bool (lb.getD j2 false)) := (HBb5.out.cell j2).trans (bools_get lb j2 (by rw [Hlb.out]; omega))
              generalize la.getD j2 false = ua at *
              generalize lb.getD j2 false = ub at *
              generalize someB la lb j2 = us at *
              rcases us with _ | _
              · rcases ua with _ | _
                · go_wp2_with fail
                  go_roundw
                  case rel => exact ⟨j2 + 1, by omega, by go_num, by rw [Hs.out]; first | rfl | simp, by first | rfl | trivial⟩
                  case measure => simp [intOf]; omega
                · go_wp2_with fail
                  go_roundw
                  case rel => exact ⟨j2 + 1, by omega, by go_num, by rw [Hs.out]; first | rfl | simp, by first | rfl | trivial⟩
                  case measure => simp [intOf]; omega
              · go_wp2_with fail
                go_roundw
                case rel => exact ⟨j2 + 1, by omega, by go_num, by rw [Hs.out]; first | rfl | simp, by first | rfl | trivial⟩
                case measure => simp [intOf]; omega
            · obtain rfl : j2 = N := by omega
              rcases mb with _ | _
              · generalize someB la lb j2 = us at *
                go_wp2_with fail
                go_ret
                exact ⟨rfl, Hb5.out⟩
              · have hsm := Hmeet.out rfl
                rw [hsm]
                clear hsm
                go_wp2_with fail
                go_ret
                exact ⟨rfl, Hb5.out⟩

set_option maxRecDepth 100000 in
theorem repairAll_walk : LawWalk Try.prog 5 Try.f5 (fun _ => True) := by
  intro W base args H enc ds p hval hA _
  rw [Try.params5] at hA hval
  obtain ⟨v0, v1, v2, v3, v4, d0, d1, d2, d3, d4, p0, p1, p2, p3, p4, rfl, rfl, rfl, h0, h1, h2, h3, h4⟩ := trodAll_fiveM hA
  obtain ⟨s, rfl, hs⟩ := arg_slice Try.underlying57 codecEntries (pos_of_eq Try.cellsEntries (by decide)) (hval 0 57 v0 rfl rfl) h0
  obtain ⟨k, rfl, _⟩ := arg_int Try.underlying3 (hval 1 3 v1 rfl rfl) h1
  obtain ⟨n, rfl, _⟩ := arg_int Try.underlying3 (hval 2 3 v2 rfl rfl) h2
  obtain ⟨r, rfl, hr⟩ := arg_slice Try.underlying23 (Codec.int Try.underlying3) (pos_of_eq Try.cellsInt (by decide)) (hval 3 23 v3 rfl rfl) h3
  obtain ⟨m, rfl, hm⟩ := arg_slice Try.underlying23 (Codec.int Try.underlying3) (pos_of_eq Try.cellsInt (by decide)) (hval 4 23 v4 rfl rfl) h4
  exact repairAll_any s k n r m W (cachesAt_cod hs) (intsAt_of hr) (intsAt_of hm)

set_option maxRecDepth 100000 in
theorem repairAll_lifted (os : Os) (started : os.Started) (H : Type) (enc : TypeId × Value → H) :
    ReturnsInHanded {} Try.checked os 5 .any (Rows.repairAllSpec.pre6 enc Try.prog Try.f5 Rows.repairAllRow.domain false) (Rows.repairAllSpec.post enc Try.prog Try.f5 false true false false) :=
  law_lifted (C := Try.checked) Rows.repairAllRow.domain Try.own started (by kernel_rfl) Try.func5 Try.laidOut (by kernel_rfl) rfl Try.underlying4 rfl (fun ds h => by match ds, h with | [_, _, _, _, _], _ => rfl)
    (ChangeSpec.witness6 (enc := enc) (C := Try.checked) false ⟨#[], #[.slice none 0 0, .int .i64 0, .int .i64 0, .slice none 0 0, .slice none 0 0], []⟩ 8 (by kernel_rfl) (by kernel_rfl) (by kernel_rfl) (by kernel_rfl)) repairAll_walk

theorem repairAll_holds : Rows.RepairAllSaid :=
  OpenClaim.holds_of_wide 5 Try.f5 rfl rfl rfl rfl rfl rfl rfl ⟨rfl, rfl, rfl, rfl, rfl⟩ rfl rfl rfl rfl rfl (by kernel_rfl) Try.func5 (by kernel_rfl)
    (of_decide_eq_true (by kernel_rfl)) (by unfold Func.isWrapper; rw [if_neg (of_decide_eq_false (by kernel_rfl))]; exact ⟨rfl, rfl⟩)
    (fun os started H enc _ => repairAll_lifted os started H enc)

end Go.Proofs.Ytdocdmpfokdjkaa
