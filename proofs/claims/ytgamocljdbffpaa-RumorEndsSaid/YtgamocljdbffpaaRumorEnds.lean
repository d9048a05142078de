/-
  PROVED HERE: merelaw2.RumorEnds returns true: of new rumors, told one after the other, each is told just as often as the limit says, and none is told again ahead of one that was told less. CONDITIONS: none.
-/
import Derived.Test.YtgamocljdbffpaaIKit
import Derived.Test.YtgamocljdbffpaaLimit
import Derived.Test.YtgamocljdbffpaaRumB
import Derived.Test.YtgamocljdbffpaaRumE
import Derived.Test.YtgamocljdbffpaaRumEnd
import Derived.Deep.CutBlock
import Derived.Deep.DeepCutAuto
namespace Go.Proofs.Ytgamocljdbffpaa
open Go.RowKit
open Go.ChangeShapes Go.WideShapes Go.ChangeAt

/-- new rumors in a slot, all right -/
def NewRow (w : World) (x : Value) (wr : World) : Prop := ∃ q : SlV U, x = .slice q.A q.xs.length q.c ∧ UsAt wr q ∧ chkU q.xs = 0 ∧ (∀ u ∈ q.xs, u.told = 0) ∧ Below w.heap.size w wr
theorem addUR_new {l : List U} {m : M} (hc : chkU l = 0) (h0 : ∀ u ∈ l, u.told = 0) (hr : rightB m = true) : addUR l m = (addU l m, 0) ∧ chkU (addU l m).1 = 0 ∧ ∀ u ∈ (addU l m).1, u.told = 0 := by
  refine ⟨by rw [addUR, if_pos hc, if_pos hr], addU_ok hc hr, fun u hu => ?_⟩
  rcases addU_mem hu with rfl | hu
  · rfl
  · exact h0 u hu
theorem addUR_bad {l : List U} {m : M} (hc : chkU l = 0) (hr : rightB m = false) : addUR l m = (([], false), 1) := by
  rw [addUR, if_pos hc, if_neg (by rw [hr]; decide)]
theorem tms_cell {w : World} {g : Nat} {ts : List Int} (h : Blk w g 36 (ints ts)) (hl : ts.length = 6) {n : Int} (hn : 0 ≤ n ∧ n ≤ 5) : w.cell? ⟨g, n.toNat, none⟩ = some (.int .i64 (tmsN ts n)) ∧ w.frozen? ⟨g, n.toNat, none⟩ = false :=
  ⟨(h.cell n.toNat).trans (ints_get ts n.toNat (by omega)), h.frozen n.toNat⟩

set_option maxHeartbeats 32000000 in
set_option maxRecDepth 100000 in
theorem rumorEnds_any (s : SlV M) (many limit : Int) (w : World) (hs : MsAt w s) :
    Calls Try.prog 4 #[.slice s.A s.xs.length s.c, .int .i64 many, .int .i64 limit] w fun e w' => e = .returned (.bool true) ∧ Below w.heap.size w w' := by
  have HS := hid (fun W (hW : Below w.heap.size w W) => hs.stays hW)
  have hls := hs.len
  unfold maxLen at hls
  have HL := hid (limit_yes 5 w (by omega) (by omega))
  clear hs
  go_enter Try.func4, Try.ntmps4
  go_wp2_with fail
  refine HL.out.mono ?_
  rw [errV_zero, show limN 5 = 9 from rfl]
  rintro e w' ⟨rfl, rfl⟩
  clear HL
  go_upto_block 0 with fail
  go_cut [9] (fun x wx => NewRow w x wx)
  case first =>
    as_aux_lemma =>
    go_wp2_with fail
    go_loopw [9, 10] (fun x i wr => ∃ (k : Nat), k ≤ s.xs.length ∧ k ≤ 12 ∧ i = .int .i64 k ∧ NewRow w x wr) (fun _ i _ => s.xs.length - (intOf i).toNat)
    case atStart => exact ⟨0, Nat.zero_le _, by omega, rfl, ⟨none, 0, []⟩, rfl, UsAt.empty _ _ _, rfl, (fun u hu => by cases hu), Below.refl _ _⟩
    case round =>
      obtain ⟨k, hk, hk12, rfl, q, rfl, hq, hqc, hq0, hb⟩ := hrel
      have hz := hb.size
      have Hb := hid hb
      have Hq := hid hq
      have Hqc := hid hqc
      have Hq0 := hid hq0
      clear hq hqc hq0
      by_cases hlt : k < s.xs.length
      · by_cases h12 : k < 12
        · obtain ⟨g, off, hA, hgl, hcells⟩ := (HS.out wr hb).row (by omega)
          obtain ⟨k0, k1, k2⟩ := hcells k hlt
          generalize s.xs.getD k M.zero = y at *
          obtain ⟨y0, y1, y2⟩ := y
          simp only at k0 k1 k2
          have HAd := hid (uadd_any q y0 y1 y2 wr Hq.out)
          rw [hA]
          clear hA hcells hb
          rcases hr : rightB ⟨y0, y1, y2⟩ with _ | _
          · rw [addUR_bad Hqc.out hr] at HAd
            clear hr
            go_wp2_with fail
            refine HAd.out.mono ?_
            rintro e w1 ⟨v, he, -, hb1⟩
            rw [errV_ne (show (1 : Int) ≠ 0 by decide)] at he
            subst he
            have Hb1 := hid (Below.step Hb.out hb1 hz)
            have Hq1 := hid (Hq.out.stays hb1)
            clear hb1
            go_wp2_with fail
            go_roundw
            case rel => exact ⟨k + 1, by omega, by omega, by go_num, q, rfl, Hq1.out, Hqc.out, Hq0.out, Hb1.out⟩
            case measure => simp [intOf]; omega
          · obtain ⟨ha, hc1, h01⟩ := addUR_new Hqc.out Hq0.out hr
            rw [ha] at HAd
            have Hc1 := hid hc1
            have H01 := hid h01
            clear hr ha hc1 h01
            generalize addU q.xs ⟨y0, y1, y2⟩ = R at *
            obtain ⟨R, rb⟩ := R
            go_wp2_with fail
            refine HAd.out.mono ?_
            rintro e w1 ⟨v, he, hO, hb1⟩
            rw [errV_zero] at he
            subst he
            obtain ⟨r, rfl, hrx, hrA, -, -⟩ := UsAt.of_ow hO (uval_good Hc1.out)
            have Hb1 := hid (Below.step Hb.out hb1 hz)
            have Hrx := hid hrx
            have HrA := hid hrA
            clear hb1 hO hrx hrA
            go_wp2_with fail
            go_roundw
            case rel => exact ⟨k + 1, by omega, by omega, by go_num, r, rfl, HrA.out, by rw [Hrx.out]; exact Hc1.out, by rw [Hrx.out]; exact H01.out, Hb1.out⟩
            case measure => simp [intOf]; omega
        · go_wp2_with fail
          go_meet
          exact ⟨q, rfl, Hq.out, Hqc.out, Hq0.out, Hb.out⟩
      · go_wp2_with fail
        go_meet
        exact ⟨q, rfl, Hq.out, Hqc.out, Hq0.out, Hb.out⟩
  case rest =>
  obtain ⟨q, rfl, hq, hqc, hq0, hb⟩ := hcut
  obtain ⟨w1, rfl⟩ : ∃ w1 : World, w1 = wc := ⟨_, rfl⟩
  have hn6 : q.xs.length ≤ 6 := by
    have := (vval_facts (uval_iff.1 hqc).1).2.2
    rw [um_length] at this
    exact this
  have Hq := hid (fun W (hW : Below w1.heap.size w1 W) => hq.stays hW)
  have Hqc := hid hqc
  have Hq0 := hid hq0
  have Hb1 := hid hb
  have hz1 := hb.size
  obtain ⟨bad, hbad⟩ : ∃ bad, bad = decide (many < 1 ∨ 6 < many ∨ limit < 1 ∨ 10 < limit) := ⟨_, rfl⟩
  have Hbad := hid hbad
  clear hq hqc hq0 hb hbad
  go_upto_region 11 with fail
  go_cut [77] (fun t wx => t = .bool bad ∧ wx = w1)
  case first =>
    as_aux_lemma =>
    rcases (show many < 1 ∨ (1 ≤ many ∧ 6 < many) ∨ (1 ≤ many ∧ many ≤ 6 ∧ limit < 1) ∨ (1 ≤ many ∧ many ≤ 6 ∧ 1 ≤ limit ∧ 10 < limit) ∨ (1 ≤ many ∧ many ≤ 6 ∧ 1 ≤ limit ∧ limit ≤ 10) by omega) with h | ⟨h, h1⟩ | ⟨h, h1, h2⟩ | ⟨h, h1, h2, h3⟩ | ⟨h, h1, h2, h3⟩
    all_goals
      go_wp2_with fail
      go_meet
      refine ⟨?_, rfl⟩
      rw [Hbad.out]
      first | (simp; done) | (congr 1; rw [Bool.eq_iff_iff]; simp; omega)
  case rest =>
  obtain ⟨rfl, hwc⟩ := hcut
  obtain rfl : w1 = wc := hwc.symm
  rcases bad with _ | _
  case true =>
    have h6 : (q.xs.length : Int) ≤ 6 := by omega
    clear Hbad
    go_wp2_with fail
    go_ret
    exact ⟨rfl, Hb1.out⟩
  case false =>
  have hok := of_decide_eq_false Hbad.out.symm
  obtain ⟨k, rfl⟩ : ∃ k : Nat, many = k := ⟨many.toNat, by omega⟩
  have hk1 : (1 : Int) ≤ (k : Int) := by omega
  have hk6 : (k : Int) ≤ 6 := by omega
  have hl1 : 1 ≤ limit := by omega
  have hl10 : limit ≤ 10 := by omega
  clear hok Hbad
  have hT0 := Blk.new w1 36 (ints [0, 0, 0, 0, 0, 0])
  have HT0 := hid hT0
  have hqb : Below w1.heap.size w1 (w1.alloc (.cells (ints [0, 0, 0, 0, 0, 0]) 36)) := (Below.refl _ _).alloc (Nat.le_refl _) _
  have HqB := hid hqb
  clear hT0 hqb
  go_upto_region 14 with fail
  obtain ⟨w2, hw2⟩ : ∃ w2 : World, w2 = w1.alloc (.cells (ints [0, 0, 0, 0, 0, 0]) 36) := ⟨_, rfl⟩
  first
    | rw [← hw2]
    | rw [show w1.alloc (.cells #[.int .i64 0, .int .i64 0, .int .i64 0, .int .i64 0, .int .i64 0, .int .i64 0] 36) = w2 from hw2.symm]
  rw [← hw2] at HT0 HqB
  have Hb2 := hid (Below.step Hb1.out HqB.out hz1)
  have hz2 : w1.heap.size < w2.heap.size := by rw [hw2]; simp
  clear hw2
  go_wp2_with fail
  go_loopw [16, 17] (fun v i wr => ∃ j : Nat, j ≤ q.xs.length ∧ i = .int .i64 j ∧ Ow cellI 1 w2.heap.size 3 wr v ((q.xs.take j).map U.node) ∧ Below w2.heap.size w2 wr) (fun _ i _ => q.xs.length - (intOf i).toNat)
  case atStart => exact ⟨0, Nat.zero_le _, rfl, Ow.nil _ _ _ _ _, Below.refl _ _⟩
  case round =>
    obtain ⟨j, hj, rfl, hO, hbr⟩ := hrel
    have HO := hid hO
    have Hbr := hid hbr
    have hzr := hbr.size
    by_cases hlt : j < q.xs.length
    · obtain ⟨g, off, hA, hgl, hcells⟩ := (Hq.out wr (Below.step HqB.out hbr HqB.out.size)).row (by omega)
      obtain ⟨k0, -, -, k3⟩ := hcells j hlt
      have htk := take_snocD U.zero hlt
      have hmm : (q.xs.take (j + 1)).map U.node = (q.xs.take j).map U.node ++ [(q.xs.getD j U.zero).node] := by rw [htk, List.map_append]; rfl
      have hnn := uNode Hqc.out (getD_memD U.zero hlt)
      have h00 := Hq0.out _ (getD_memD U.zero hlt)
      have hlen : ((q.xs.take j).map U.node).length ≤ 6 := by rw [List.length_map, List.length_take]; omega
      generalize q.xs.getD j U.zero = y at *
      generalize (q.xs.take j).map U.node = LN at *
      obtain ⟨y0, y1, y2, y3⟩ := y
      simp only at k0 k3 hnn h00 hmm
      subst h00
      obtain ⟨hn0, hn5⟩ := hnn
      have Hmm := hid hmm
      rw [hA]
      have HA := hid hA
      clear hA hcells htk hmm hO hbr
      go_wp2_with (at_builtin; refine appI _ w2.heap.size _ LN y0 HO.out rfl _ _ rfl rfl rfl ?_ ?_ ?_ ?_)
      any_goals (first | (with_reducible rfl) | omega | exact World.size_alloc _ _ | (show _ ≤ _; rw [World.size_alloc]; omega))
      intro v8 w8 h8 f8 o8
      have hb8 : Below w2.heap.size w2 w8 := Hbr.out.trans (f8.below0 hzr (fun i hi => HO.out.ge _ hi))
      go_wp2_with fail
      go_roundw
      case rel => exact ⟨j + 1, by omega, by go_num, by rw [Hmm.out]; exact h8, hb8⟩
      case measure => simp [intOf]; omega
    · obtain rfl : j = q.xs.length := by omega
      rw [List.take_length] at HO hO
      obtain ⟨An, cn, hvn, hlcn, hcmn, -⟩ := hO.form
      rw [List.length_map] at hvn
      subst hvn
      obtain ⟨w3, rfl⟩ : ∃ w3 : World, w3 = wr := ⟨_, rfl⟩
      have hTb := HT0.out.belowS Hbr.out
      have HTb := hid hTb
      have Hb3 := hid (Below.step Hb2.out Hbr.out Hb2.out.size)
      have hlm : (q.xs.map U.node).length = q.xs.length := by simp
      clear hO hbr hTb
      have hzt : w1.heap.size < w3.heap.size := by have := Hbr.out.size; omega
      have hnc : ∀ i, i < q.xs.length → ∃ gN oN, An = some ⟨gN, oN, none⟩ ∧ gN < w3.heap.size ∧ w2.heap.size ≤ gN ∧ ∀ i, i < q.xs.length → w3.cell? ⟨gN, oN + i, none⟩ = some (.int .i64 (q.xs.getD i U.zero).node) := fun i hi => by
        obtain ⟨g, off, cap, hv, _, _, hb, hg, _, hc, _⟩ := HO.out.get (by rw [List.length_map]; omega)
        injection hv with hv1 _ _
        refine ⟨g, off, hv1, hg, hb, fun i hi => ?_⟩
        have := hc i (by rw [List.length_map]; exact hi) 0 (by decide)
        rw [Nat.mul_one, Nat.add_zero] at this
        rw [this, List.getElem_map, getD_get _ hi]
        rfl
      have Hnc := hid hnc
      have Hlm := hid hlm
      have Hvn := hid (show ∀ i : Nat, i < q.xs.length → 0 ≤ (q.xs.getD i U.zero).node ∧ (q.xs.getD i U.zero).node ≤ 5 from fun i hi => uNode Hqc.out (getD_memD U.zero hi))
      clear hnc hlm hlcn hcmn
      go_wp2_with fail
      go_loopw [9, 18] (fun x t wr => ∃ (t' : Nat) (r : SlV U) (ts : List Int), t = .int .i64 t' ∧ x = .slice r.A r.xs.length r.c ∧ UsAt wr r ∧ Turns q.xs limit r.xs ts ∧ (t' : Int) ≤ ts.sum ∧ Blk wr w1.heap.size 36 (ints ts) ∧ (∀ i, i < q.xs.length → ∃ gN oN, An = some ⟨gN, oN, none⟩ ∧ gN < wr.heap.size ∧ w2.heap.size ≤ gN ∧ ∀ i, i < q.xs.length → wr.cell? ⟨gN, oN + i, none⟩ = some (.int .i64 (q.xs.getD i U.zero).node)) ∧ Below w.heap.size w wr ∧ w3.heap.size ≤ wr.heap.size) (fun _ t _ => 100 - (intOf t).toNat)
      case atStart => exact ⟨0, q, [0, 0, 0, 0, 0, 0], rfl, rfl, Hq.out _ (Below.step HqB.out Hbr.out HqB.out.size), Turns.start Hqc.out Hq0.out hl1, by simp, HTb.out, Hnc.out, Hb3.out, Nat.le_refl _⟩
      case round =>
        obtain ⟨t, r, ts, rfl, rfl, hrA, hTu, hts, hTs, hnc, hbw, hzw⟩ := hrel
        have HTu := hid hTu
        have HrA := hid hrA
        have HTs := hid hTs
        have Hts := hid hts
        have Hncw := hid hnc
        have Hbw := hid hbw
        have htl : (t : Int) ≤ 60 := by have := hTu.sum; omega
        have hzt2 := hTs.lt
        clear hrA hTu hts hTs hnc hbw
        by_cases h0 : 0 < r.xs.length
        · have hr0 : (0 : Int) < (r.xs.length : Int) := by omega
          have HPk := hid (show Calls Try.prog 6 #[.slice r.A r.xs.length r.c, .int .i64 k, .int .i64 limit] wr (UPRes wr (pickU r.xs k limit, 0)) from by
            have := upick_any r k limit wr HrA.out
            rw [pickUR, if_pos HTu.out.chk, if_pos (by omega), Int.toNat_natCast] at this
            exact this)
          have Hst := hid (HTu.out.step Hqc.out hl1 hl10 (k := k))
          obtain ⟨-, -, htlen, -⟩ := told_nodes HTu.out.chk k
          have Htn := hid (told_nodes HTu.out.chk k)
          have hlt1 : 1 ≤ (pickU r.xs k limit).1.length := by
            show 1 ≤ (pickU r.xs k 0).1.length
            omega
          have hltk : (pickU r.xs k limit).1.length ≤ k := by
            show (pickU r.xs k 0).1.length ≤ k
            omega
          have Hgd := hid (show (∀ y ∈ (pickU r.xs k limit).1, y.good) ∧ ∀ y ∈ (pickU r.xs k limit).2, y.good from by
            refine ⟨fun y hy => ?_, uval_good Hst.out.1.chk⟩
            obtain ⟨z, hz, hy⟩ := List.mem_flatMap.1 hy
            unfold toldU at hy
            split at hy
            · rw [List.mem_singleton.1 hy]
              exact right_good (okU_true.1 ((uval_iff.1 HTu.out.chk).2 z hz)).1
            · cases hy)
          have Hsum := hid (show 1 ≤ min k r.xs.length by omega)
          have hP0 : (pickU r.xs k 0).1 = (pickU r.xs k limit).1 := rfl
          rw [hP0] at Htn
          clear htlen hP0
          generalize pickU r.xs k limit = P at *
          obtain ⟨PM, PU⟩ := P
          simp only at hlt1 hltk
          go_wp2_with fail
          refine HPk.out.mono ?_
          rintro e w5 ⟨v5, u5, he, hOv, hOu, hb5⟩
          rw [errV_zero] at he
          subst he
          obtain ⟨y, rfl, hyx, hyA, -, hyb⟩ := MsAt.of_ow hOv Hgd.out.1
          obtain ⟨z, rfl, hzx, hzA, -, hzb⟩ := UsAt.of_ow hOu Hgd.out.2
          have hyl : y.xs.length = PM.length := by rw [hyx]
          have hy1 : (1 : Int) ≤ (y.xs.length : Int) := by omega
          have hyk : (y.xs.length : Int) ≤ (k : Int) := by omega
          have HTs5 := hid (HTs.out.belowS hb5)
          have Hb5 := hid (Below.step Hbw.out hb5 Hbw.out.size)
          have hz5 := hb5.size
          have Hyx := hid hyx
          have HyA := hid hyA
          have Hyb := hid hyb
          have Hzx := hid hzx
          have HzA := hid hzA
          have Hzb := hid hzb
          have Hnc5 := hid (show ∀ i, i < q.xs.length → ∃ gN oN, An = some ⟨gN, oN, none⟩ ∧ gN < w5.heap.size ∧ w2.heap.size ≤ gN ∧ ∀ i, i < q.xs.length → w5.cell? ⟨gN, oN + i, none⟩ = some (.int .i64 (q.xs.getD i U.zero).node) from fun i hi => by
            obtain ⟨gN, oN, h1, h2, h3, h4⟩ := Hncw.out i hi
            exact ⟨gN, oN, h1, by omega, h3, fun i hi => (hb5.cell (p := ⟨gN, _, none⟩) h2).trans (h4 i hi)⟩)
          clear hOv hOu hb5 hyx hyA hyb hzx hzA hzb hyl hlt1 hltk
          go_wp2_with fail
          rename (1 ≤ (y.xs.length : Int) ∧ ¬ k < y.xs.length) => hcl
          clear hcl
          go_loopw [22] (fun i wi => ∃ (j : Nat) (ts' : List Int), j ≤ y.xs.length ∧ i = .int .i64 j ∧ ts' = (y.xs.take j).foldl incr ts ∧ Blk wi w1.heap.size 36 (ints ts') ∧ Fr (fun b => b = w1.heap.size) w5 wi) (fun i _ => y.xs.length - (intOf i).toNat)
          case atStart => exact ⟨0, ts, Nat.zero_le _, rfl, rfl, HTs5.out, Fr.refl _ _⟩
          case round =>
            obtain ⟨j, ts', hj, rfl, hts', hTi, hFi⟩ := hrel
            have hzi := hFi.size
            by_cases hlt : j < y.xs.length
            · obtain ⟨g, off, hA, hgl, hcells⟩ := (HyA.out.fr hFi (fun h0 b off hA h => by have := (Hyb.out h0 b off hA).2; omega)).row (by omega)
              obtain ⟨k0, -, -⟩ := hcells j hlt
              have htk := take_snocD M.zero hlt
              have hfo : (y.xs.take (j + 1)).foldl incr ts = incr ((y.xs.take j).foldl incr ts) (y.xs.getD j M.zero) := by rw [htk, List.foldl_append]; rfl
              have hmem : y.xs.getD j M.zero ∈ PM := by rw [← Hyx.out]; exact getD_memD M.zero hlt
              have hnn := Htn.out.1 _ hmem
              have hpre := foldl_incr (l := y.xs.take j) HTu.out.len (fun m hm => Htn.out.1 m (by rw [← Hyx.out]; exact List.mem_of_mem_take hm)) (List.Pairwise.sublist (List.take_sublist _ _) (by rw [Hyx.out]; exact Htn.out.2.1))
              rw [← hts'] at hpre hfo
              generalize y.xs.getD j M.zero = m at *
              obtain ⟨m0, m1, m2⟩ := m
              simp only at k0 hnn
              obtain ⟨p, rfl⟩ : ∃ p : Nat, m0 = p := ⟨m0.toNat, by omega⟩
              have hb0 := HTu.out.bound p hnn
              have hv := hpre.2.2 p hnn
              have hx0 : 0 ≤ tmsN ts' p ∧ tmsN ts' p ≤ 20 := by
                rw [hv]
                split <;> omega
              obtain ⟨hx0, hx1⟩ := hx0
              obtain ⟨c0, z0⟩ := tms_cell hTi hpre.1 hnn
              rw [Int.toNat_natCast] at c0 z0
              have hTi2 := hTi.put p (.int .i64 (tmsN ts' p + 1))
              rw [ints_set] at hTi2
              have hinc : ts'.set p (tmsN ts' p + 1) = incr ts' ⟨p, m1, m2⟩ := rfl
              rw [hinc, ← hfo] at hTi2
              have hFi2 := hFi.setCell (p := ⟨w1.heap.size, p, none⟩) (.inl rfl) (.int .i64 (tmsN ts' p + 1))
              have HTi2 := hid hTi2
              have HFi2 := hid hFi2
              have hp5 : (p : Int) < 6 := by omega
              have hp0 : (0 : Int) ≤ (p : Int) := by omega
              generalize tmsN ts' p = tv at *
              rw [hA]
              clear hA hcells htk hfo hmem hnn hpre hb0 hv hTi hFi hTi2 hFi2 hinc hts'
              go_wp2_with fail
              go_roundw
              case rel => first | exact ⟨j + 1, by omega, by go_num, HTi2.out, HFi2.out⟩ | exact ⟨j + 1, _, by omega, by go_num, rfl, HTi2.out, HFi2.out⟩
              case measure => simp [intOf]; omega
            · obtain rfl : j = y.xs.length := by omega
              rw [List.take_length, Hyx.out] at hts'
              subst hts'
              obtain ⟨w6, rfl⟩ : ∃ w6 : World, w6 = wr := ⟨_, rfl⟩
              have HT6 := hid hTi
              have HF6 := hid hFi
              have hnc6 : ∀ i, i < q.xs.length → ∃ gN oN, An = some ⟨gN, oN, none⟩ ∧ gN < w6.heap.size ∧ w2.heap.size ≤ gN ∧ ∀ i, i < q.xs.length → w6.cell? ⟨gN, oN + i, none⟩ = some (.int .i64 (q.xs.getD i U.zero).node) := fun i hi => by
                obtain ⟨gN, oN, h1, h2, h3, h4⟩ := Hnc5.out i hi
                exact ⟨gN, oN, h1, by omega, h3, fun i hi => (hFi.cell (p := ⟨gN, _, none⟩) h2 (by simp only; omega)).trans (h4 i hi)⟩
              have Hnc6 := hid hnc6
              clear hTi hFi hnc6
              go_wp2_with fail
              go_loopw [23] (fun i wk => ∃ (i' d : Nat), i' ≤ q.xs.length ∧ i = .int .i64 i' ∧ wk = w6.drewN d) (fun i _ => q.xs.length - (intOf i).toNat)
              case atStart => exact ⟨0, 0, Nat.zero_le _, rfl, rfl⟩
              case round =>
                obtain ⟨i', d, hi', rfl, rfl⟩ := hrel
                by_cases hlt2 : i' < q.xs.length
                · go_wp2_with fail
                  go_loopw [24] (fun i wk => ∃ (i'' d : Nat), i'' ≤ q.xs.length ∧ i = .int .i64 i'' ∧ wk = w6.drewN d) (fun i _ => q.xs.length - (intOf i).toNat)
                  case atStart => exact ⟨0, d, Nat.zero_le _, rfl, rfl⟩
                  case round =>
                    obtain ⟨i'', d2, hi'', rfl, rfl⟩ := hrel
                    by_cases hlt3 : i'' < q.xs.length
                    · obtain ⟨gN, oN, hAn, hgN, -, hcN⟩ := Hnc6.out i' hlt2
                      have c1 := hcN i' hlt2
                      have c2 := hcN i'' hlt3
                      have hv1 := Hvn.out i' hlt2
                      have hv2 := Hvn.out i'' hlt3
                      have hnear := Hst.out.1.near _ (getD_memD U.zero hlt2) _ (getD_memD U.zero hlt3)
                      have ht1 := tms_cell HT6.out Hst.out.1.len hv1
                      have ht2 := tms_cell HT6.out Hst.out.1.len hv2
                      have hbd1 := Hst.out.1.bound _ hv1
                      have hbd2 := Hst.out.1.bound _ hv2
                      generalize (q.xs.getD i' U.zero).node = n1 at *
                      generalize (q.xs.getD i'' U.zero).node = n2 at *
                      obtain ⟨p1, rfl⟩ : ∃ p : Nat, n1 = p := ⟨n1.toNat, by omega⟩
                      obtain ⟨p2, rfl⟩ : ∃ p : Nat, n2 = p := ⟨n2.toNat, by omega⟩
                      rw [Int.toNat_natCast] at ht1 ht2
                      have e1 := ht1.1
                      have e2 := ht2.1
                      generalize tmsN (List.foldl incr ts PM) p1 = tv1 at *
                      generalize tmsN (List.foldl incr ts PM) p2 = tv2 at *
                      obtain ⟨b10, b11⟩ := hbd1
                      obtain ⟨b20, b21⟩ := hbd2
                      have hp10 : (0 : Int) ≤ (p1 : Int) := by omega
                      have hp11 : (p1 : Int) < 6 := by omega
                      have hp20 : (0 : Int) ≤ (p2 : Int) := by omega
                      have hp21 : (p2 : Int) < 6 := by omega
                      have hi10 : (0 : Int) ≤ (i' : Int) := by omega
                      have hi11 : (i' : Int) < (q.xs.length : Int) := by omega
                      have hi20 : (0 : Int) ≤ (i'' : Int) := by omega
                      have hi21 : (i'' : Int) < (q.xs.length : Int) := by omega
                      have hle : ¬ tv2 + 1 < tv1 := by omega
                      rw [hAn]
                      clear hAn hcN hv1 hv2 ht1 ht2 hnear
                      go_wp2_with fail
                      go_quiet (fail)
                      go_wp2_with fail
                      go_roundw
                      case rel => exact ⟨i'' + 1, _, by omega, by go_num, by first | rfl | exact World.drewN_drewN _ _ _⟩
                      case measure => simp [intOf]; omega
                    · obtain rfl : i'' = q.xs.length := by omega
                      go_wp2_with fail
                      go_roundw
                      case rel => exact ⟨i' + 1, d2, by omega, by go_num, rfl⟩
                      case measure => simp [intOf]; omega
                · obtain rfl : i' = q.xs.length := by omega
                  have hz6 := HF6.out.size
                  go_wp2_with fail
                  go_roundw
                  case rel =>
                    refine ⟨t + 1, z, _, by go_num, rfl, (HzA.out.fr HF6.out (fun h0 b off hA h => by have := (Hzb.out h0 b off hA).2; omega)).drewN _, by rw [Hzx.out]; exact Hst.out.1, ?_, HT6.out.drewN _, fun i hi => ?_, Below.manyDrew (Hb5.out.trans (HF6.out.below0 Hb5.out.size (fun i hi => by omega))) _, ?_⟩
                    · rw [Hst.out.2]
                      have h1 := Hsum.out
                      have h2 := Hts.out
                      omega
                    · obtain ⟨gN, oN, h1, h2, h3, h4⟩ := Hnc6.out i hi
                      exact ⟨gN, oN, h1, h2, h3, h4⟩
                    · show w3.heap.size ≤ w6.heap.size
                      omega
                  case measure => simp [intOf]; omega
        · have hr0 : r.xs = [] := List.eq_nil_of_length_eq_zero (by omega)
          have hdone : ∀ v ∈ q.xs, tmsN ts v.node = limit := by
            have := HTu.out
            rw [hr0] at this
            exact this.done
          have Hdone := hid hdone
          have hr1 : ¬ (0 : Int) < (r.xs.length : Int) := by omega
          have hr2 : ((r.xs.length : Int) == 0) = true := by rw [beq_iff_eq]; omega
          clear hr0 hdone h0
          go_wp2_with fail
          go_loopw [25] (fun i wk => ∃ (i' : Nat), i' ≤ q.xs.length ∧ i = .int .i64 i' ∧ wk = wr) (fun i _ => q.xs.length - (intOf i).toNat)
          case atStart => exact ⟨0, Nat.zero_le _, rfl, rfl⟩
          case round =>
            obtain ⟨i', hi', rfl, hwk⟩ := hrel
            subst hwk
            by_cases hlt2 : i' < q.xs.length
            · obtain ⟨gN, oN, hAn, hgN, -, hcN⟩ := Hncw.out i' hlt2
              have c1 := hcN i' hlt2
              have hv1 := Hvn.out i' hlt2
              have ht1 := tms_cell HTs.out HTu.out.len hv1
              have hd1 := Hdone.out _ (getD_memD U.zero hlt2)
              generalize (q.xs.getD i' U.zero).node = n1 at *
              obtain ⟨p1, rfl⟩ : ∃ p : Nat, n1 = p := ⟨n1.toNat, by omega⟩
              rw [Int.toNat_natCast, hd1] at ht1
              have e1 := ht1.1
              have hp10 : (0 : Int) ≤ (p1 : Int) := by omega
              have hp11 : (p1 : Int) < 6 := by omega
              have hi10 : (0 : Int) ≤ (i' : Int) := by omega
              have hi11 : (i' : Int) < (q.xs.length : Int) := by omega
              have hne : (limit != limit) = false := by simp
              rw [hAn]
              clear hAn hcN hv1 ht1 hd1
              go_wp2_with fail
              go_roundw
              case rel => first | exact ⟨i' + 1, by omega, by go_num, rfl⟩ | exact ⟨i' + 1, by omega, by go_num, trivial⟩ | exact ⟨i' + 1, by omega, by go_num⟩
              case measure => simp [intOf]; omega
            · obtain rfl : i' = q.xs.length := by omega
              go_wp2_with fail
              go_ret
              first | exact ⟨rfl, Hbw.out⟩ | exact ⟨ret_b hr2, Hbw.out⟩

set_option maxRecDepth 100000 in
theorem rumorEnds_walk : LawWalk Try.prog 4 Try.f4 (fun _ => True) := by
  intro W base args H enc ds p hval hA _
  rw [Try.params4] at hA hval
  obtain ⟨v0, v1, v2, d0, d1, d2, p0, p1, p2, rfl, rfl, rfl, h0, h1, h2⟩ := trodAll_three hA
  obtain ⟨s, rfl, hs⟩ := arg_slice Try.underlying29 codecM (pos_of_eq Try.cellsM (by decide)) (hval 0 29 v0 rfl rfl) h0
  obtain ⟨many, rfl, _⟩ := arg_int Try.underlying3 (hval 1 3 v1 rfl rfl) h1
  obtain ⟨limit, rfl, _⟩ := arg_int Try.underlying3 (hval 2 3 v2 rfl rfl) h2
  exact rumorEnds_any s many limit W (MsAt_of hs)

set_option maxRecDepth 100000 in
theorem rumorEnds_lifted (os : Os) (started : os.Started) (H : Type) (enc : TypeId × Value → H) :
    ReturnsInHanded {} Try.checked os 4 .any (Rows.rumorEndsSpec.pre6 enc Try.prog Try.f4 Rows.rumorEndsRow.domain false) (Rows.rumorEndsSpec.post enc Try.prog Try.f4 false true false false) :=
  law_lifted (C := Try.checked) Rows.rumorEndsRow.domain Try.own started (by kernel_rfl) Try.func4 Try.laidOut (by kernel_rfl) rfl Try.underlying4 rfl (fun ds h => by match ds, h with | [_, _, _], _ => rfl)
    (ChangeSpec.witness6 (enc := enc) (C := Try.checked) false ⟨#[], #[.slice none 0 0, .int .i64 0, .int .i64 0], []⟩ 8 (by kernel_rfl) (by kernel_rfl) (by kernel_rfl) (by kernel_rfl)) rumorEnds_walk

theorem rumorEnds_holds : Rows.RumorEndsSaid :=
  OpenClaim.holds_of_wide 4 Try.f4 rfl rfl rfl rfl rfl rfl rfl ⟨rfl, rfl, rfl, rfl, rfl⟩ rfl rfl rfl rfl rfl (by kernel_rfl) Try.func4 (by kernel_rfl)
    (of_decide_eq_true (by kernel_rfl)) (by unfold Func.isWrapper; rw [if_neg (of_decide_eq_false (by kernel_rfl))]; exact ⟨rfl, rfl⟩)
    (fun os started H enc _ => rumorEnds_lifted os started H enc)

end Go.Proofs.Ytgamocljdbffpaa
