/-
  CONTRACTS of repair.Lacks and Write, at any caches. CONDITIONS: none.
-/
import Derived.Test.YtdocdmpfokdjkaaRepair
namespace Go.Proofs.Ytdocdmpfokdjkaa
open Go.RowKit
open Go.ChangeShapes Go.WideShapes Go.ChangeAt

theorem tyIE : (3 : TypeId) ≠ 47 := by decide
/-- a row of one's own lies apart from a box of another type -/
theorem Ow.apart {α : Type} {cells : α → List Value} {n base : Nat} {T T' : TypeId} {w : World} {v : Value} {l : List α} (h : Ow cells n base T w v l) {b : Nat} {cs : Array Value} (hB : Blk w b T' cs) (hT : T ≠ T') : ¬ some b = foot v := fun e => by
  obtain ⟨cur, hc⟩ := h.typ e.symm
  exact hT (hc.eq_ hB).2
theorem lacksF_len (k v : Int) : ∀ (l : List (SlV E)) (n : Nat), (lacksF k v n l).length ≤ l.length
  | [], _ => Nat.le_refl _
  | c :: r, n => by
    rw [lacksF]
    have := lacksF_len k v r (n + 1)
    split <;> simp <;> omega
theorem lacksB_has {k v : Int} {c : SlV E} (hc : chkC c.xs = 0) : lacksB k v c = if hasK k c.xs = true then decide ((c.xs.getD (plc k c.xs) E.zero).ver < v) else true := by
  rw [lacksB, at_lk (val_iff.1 hc).1]
  rcases hasK k c.xs with _ | _
  · rw [if_neg (by decide), if_neg (by decide)]
  · rw [if_pos rfl, if_pos rfl]

set_option maxHeartbeats 8000000 in
set_option maxRecDepth 100000 in
theorem lacks_any (s : SlV (SlV E)) (k : Int) (w : World) (hs : CachesAt w s) :
    Calls Try.prog 21 #[.slice s.A s.xs.length s.c, .int .i64 k] w fun e w' => ∃ q : SlV Int, e = .returned (.tuple #[.slice q.A q.xs.length q.c, errV (lacksR s.xs k).2]) ∧ q.xs = (lacksR s.xs k).1 ∧ IntsAt w' q ∧ Below w.heap.size w w' := by
  have HRd := hid (read_any s k w hs)
  by_cases h0 : (readR s.xs k).2 = 0
  · obtain ⟨x, hx⟩ : ∃ x, readR s.xs k = (x, 0) := ⟨(readR s.xs k).1, by rw [← h0]⟩
    obtain ⟨hck, _⟩ := readR_zero hx
    obtain ⟨⟨h1, h6⟩, hch, hk⟩ := chkTK_ok hck
    rw [hx] at HRd
    obtain ⟨x0, x1, x2, x3, x4⟩ := x
    have hR : lacksR s.xs k = (lacksF k x1 0 s.xs, 0) := by rw [lacksR, hx, if_pos rfl]
    rw [hR]
    simp only [E.val] at HRd
    rw [errV_zero] at HRd
    rw [errV_zero]
    have Hs := hid hs
    have Hk := hid hk
    have Hch := hid hch
    clear hR hx h0 hck hk hch hs
    go_enter Try.func21, Try.ntmps21
    go_wp2_with fail
    refine HRd.out.mono ?_
    rintro e w1 ⟨rfl, hb1⟩
    have Hb1 := hid hb1
    have hz1 := hb1.size
    clear hb1 HRd
    go_wp2_with fail
    go_loopw [8, 24] (fun o i wr => ∃ j : Nat, j ≤ s.xs.length ∧ i = .int .i64 j ∧ Ow cellI 1 w.heap.size 3 wr o (lacksF k x1 0 (s.xs.take j)) ∧ Blk wr w1.heap.size 47 #[.int .i64 x0, .int .i64 x1, .int .i64 x2, .bool x3, .string x4] ∧ Below w.heap.size w wr) (fun _ i _ => s.xs.length - (intOf i).toNat)
    case atStart => exact ⟨0, Nat.zero_le _, rfl, Ow.nil _ _ _ _ _, Blk.new _ _ _, Hb1.out.alloc hz1 _⟩
    case round =>
      obtain ⟨j, hj, rfl, hO, hB, hbr⟩ := hrel
      have hz0 := hbr.size
      have hlo := hB.lt
      obtain ⟨Ao, co, hv, -, -, -⟩ := hO.form
      subst hv
      have HO := hid hO
      have HB := hid hB
      have Hbr := hid hbr
      by_cases hlt : j < s.xs.length
      · obtain ⟨b, off, hA, hb, hcells⟩ := Hs.out.row (by omega)
        have hcell := hcells j hlt
        have hin := (Hs.out.each j hlt).stays hbr
        rw [← hbr.cell (p := ⟨b, off + j, none⟩) hb] at hcell
        have hcc := Hch.out _ (List.getElem_mem hlt)
        obtain ⟨hn, _, hS, hK⟩ := chkC_ok hcc
        have hsn : lacksF k x1 0 (s.xs.take (j + 1)) = if lacksB k x1 s.xs[j] = true then lacksF k x1 0 (s.xs.take j) ++ [(j : Int)] else lacksF k x1 0 (s.xs.take j) := by
          rw [List.take_succ_eq_append_getElem hlt, lacksF_snoc, List.length_take, show 0 + min j s.xs.length = j by omega]
        have hll : (lacksF k x1 0 (s.xs.take j)).length ≤ 100000000 := by
          have := lacksF_len k x1 (s.xs.take j) 0
          rw [List.length_take] at this
          omega
        have hlb := lacksB_has (k := k) (v := x1) hcc
        generalize s.xs[j] = c at *
        have HP := hid (place_any k c wr hin hS hK (keyB_true.1 Hk.out) hn)
        generalize hlq : lacksF k x1 0 (s.xs.take j) = L at *
        have HSn := hid hsn
        obtain ⟨lb, hlbe⟩ : ∃ lb, lacksB k x1 c = lb := ⟨_, rfl⟩
        rw [hlbe] at HSn hlb
        have HA := hid hA
        rw [hA]
        clear hA hcells hS hK hsn hO hB hbr hlbe hcc hlq
        rcases hh : hasK k c.xs with _ | _
        · rw [hh, if_neg (by decide)] at hlb
          rw [hh] at HP
          subst hlb
          clear hh
          go_wp2_with fail
          refine HP.out.mono ?_
          rintro e w2 ⟨rfl, hb2⟩
          have hz2 := hb2.size
          have HO2 := hid (HO.out.belowS hb2)
          have HB2 := hid (HB.out.belowS hb2)
          have Hb2 := hid (Below.step Hbr.out hb2 hz0)
          have hl2 : w1.heap.size < w2.heap.size := by omega
          clear hb2 HP hcell hin
          go_wp2_with fail
          go_quiet (fail)
          rename_i nq
          have hz3 : w.heap.size ≤ (w2.drewN nq).heap.size := Hb2.out.size
          go_wp2_with (at_builtin; refine appI _ w.heap.size _ L (j : Int) (HO2.out.drewN nq) rfl _ _ rfl rfl rfl rfl hll hz3 ?_)
          intro v8 w8 h8 f8 o8
          have HB8 := hid ((HB2.out.drewN nq).fr f8 (fun e => (HO2.out.drewN nq).apart (HB2.out.drewN nq) tyIE e))
          have Hb8 := hid ((Below.manyDrew Hb2.out nq).trans (f8.below0 hz3 (fun i hi => (HO2.out.drewN nq).ge _ hi)))
          have HO8 := hid h8
          obtain ⟨A8, c8, hv8, -, -, -⟩ := h8.form
          clear h8 f8 o8
          go_wp2_with fail
          go_roundw
          case rel => exact ⟨j + 1, by omega, by go_num, by rw [HSn.out, if_pos trivial]; exact HO8.out, HB8.out, Hb8.out⟩
          case measure => simp [intOf]; omega
        · have hp : plc k c.xs < c.xs.length := by
            unfold hasK at hh
            simp at hh
            exact hh.1
          rw [hh, if_pos rfl] at hlb
          rw [hh] at HP
          obtain ⟨g, off2, hA2, hg, hcells2⟩ := hin.get (by omega)
          have hE := (hcells2 _ hp).c1
          have hcl := hin.len
          unfold maxLen at hcl
          have hpi : (plc k c.xs : Int) < (c.xs.length : Int) := by omega
          generalize c.xs.getD (plc k c.xs) E.zero = y at *
          obtain ⟨y0, y1, y2, y3, y4⟩ := y
          simp only at hE hlb
          generalize plc k c.xs = q at *
          have HA2 := hid hA2
          have Hlb := hid hlb
          clear hh hcells2 hA2 hlb
          go_wp2_with fail
          refine HP.out.mono ?_
          rintro e w2 ⟨rfl, hb2⟩
          have hz2 := hb2.size
          have HO2 := hid (HO.out.belowS hb2)
          have HB2 := hid (HB.out.belowS hb2)
          have Hb2 := hid (Below.step Hbr.out hb2 hz0)
          have hl2 : w1.heap.size < w2.heap.size := by omega
          have k1 := (hb2.cell (p := ⟨g, _, none⟩) hg).trans hE
          have d1 : w2.cell? ⟨w1.heap.size, 1, none⟩ = some (.int .i64 x1) := HB2.out.cell 1
          have hg2 : g < w2.heap.size := by omega
          rw [HA2.out]
          clear hb2 HP hcell hin hE
          go_upto_region 9 with fail
          go_cut [46] (fun t wx => t = .bool lb ∧ ∃ n, wx = w2.drewN n)
          case first =>
            go_wp2_with fail
            go_quiet (fail)
            go_wp2_with fail
            go_meet
            exact ⟨by rw [Hlb.out], _, rfl⟩
          case rest =>
          obtain ⟨rfl, nq, hwc⟩ := hcut
          obtain ⟨w3, rfl⟩ : ∃ w3 : World, w3 = wc := ⟨_, rfl⟩
          have HO3 := hid (show Ow cellI 1 w.heap.size 3 w3 _ L from by rw [hwc]; exact HO2.out.drewN nq)
          have HB3 := hid (show Blk w3 w1.heap.size 47 #[.int .i64 x0, .int .i64 x1, .int .i64 x2, .bool x3, .string x4] from by rw [hwc]; exact HB2.out.drewN nq)
          have Hb3 := hid (show Below w.heap.size w w3 from by rw [hwc]; exact Below.manyDrew Hb2.out nq)
          have hz3 := Hb3.out.size
          clear hwc k1 d1
          rcases lb with _ | _
          · go_wp2_with fail
            go_roundw
            case rel => exact ⟨j + 1, by omega, by go_num, by rw [HSn.out, if_neg (by decide)]; exact HO3.out, HB3.out, Hb3.out⟩
            case measure => simp [intOf]; omega
          · go_wp2_with (at_builtin; refine appI _ w.heap.size _ L (j : Int) HO3.out rfl _ _ rfl rfl rfl rfl hll hz3 ?_)
            intro v8 w8 h8 f8 o8
            have HB8 := hid (HB3.out.fr f8 (fun e => HO3.out.apart HB3.out tyIE e))
            have Hb8 := hid (Hb3.out.trans (f8.below0 hz3 (fun i hi => HO3.out.ge _ hi)))
            have HO8 := hid h8
            obtain ⟨A8, c8, hv8, -, -, -⟩ := h8.form
            clear h8 f8 o8
            go_wp2_with fail
            go_roundw
            case rel => exact ⟨j + 1, by omega, by go_num, by rw [HSn.out, if_pos trivial]; exact HO8.out, HB8.out, Hb8.out⟩
            case measure => simp [intOf]; omega
      · obtain rfl : j = s.xs.length := by omega
        have hO' := HO.out
        rw [List.take_length] at hO'
        obtain ⟨r, hr, hrx, hrA, -, -⟩ := IntsAt.of_ow hO'
        have hvr := hr
        clear hO' hO hB hbr
        rw [List.take_length]
        rw [hr]
        have Hrx := hid hrx
        have HrA := hid hrA
        clear hr hvr hrx hrA HO
        go_wp2_with fail
        refine bodyPost_ret (v := .tuple #[.slice r.A r.xs.length r.c, .nilIface]) ?_ rfl ⟨r, rfl, Hrx.out, HrA.out, Hbr.out⟩
        simp [results, Try.results21, go_sem]
  · have hR : lacksR s.xs k = ([], (readR s.xs k).2) := by rw [lacksR, if_neg h0]
    rw [hR]
    have Hen := hid (errV_ne h0)
    generalize readR s.xs k = R at *
    obtain ⟨⟨x0, x1, x2, x3, x4⟩, en⟩ := R
    simp only [E.val] at HRd Hen ⊢
    rw [Hen.out] at HRd
    clear h0 hR hs
    go_enter Try.func21, Try.ntmps21
    go_wp2_with fail
    refine HRd.out.mono ?_
    rintro e w1 ⟨rfl, hb1⟩
    have Hb1 := hid hb1
    have hz1 := hb1.size
    clear hb1 HRd
    go_wp2_with fail
    refine bodyPost_ret (v := .tuple #[.slice none 0 0, .iface 69 (.int .i64 en)]) ?_ rfl ⟨⟨none, 0, []⟩, by rw [Hen.out]; rfl, rfl, IntsAt.bare _ _ _, Hb1.out.alloc hz1 _⟩
    simp [results, Try.results21, go_sem]

/-- what is written -/
def writeL (l : List (SlV E)) (k : Int) : List (List E) := if (readR l k).2 = 0 then l.map (fun c => (addC c.xs (readR l k).1).1) else []

set_option maxHeartbeats 8000000 in
set_option maxRecDepth 100000 in
theorem write_any (s : SlV (SlV E)) (k : Int) (w : World) (hs : CachesAt w s) :
    Calls Try.prog 23 #[.slice s.A s.xs.length s.c, .int .i64 k] w fun e w' => ∃ v, e = .returned (.tuple #[v, errV (readR s.xs k).2]) ∧ RowC w.heap.size w' v (writeL s.xs k) ∧ Below w.heap.size w w' := by
  have HRd := hid (read_any s k w hs)
  by_cases h0 : (readR s.xs k).2 = 0
  · obtain ⟨x, hx⟩ : ∃ x, readR s.xs k = (x, 0) := ⟨(readR s.xs k).1, by rw [← h0]⟩
    obtain ⟨hck, _⟩ := readR_zero hx
    obtain ⟨⟨h1, h6⟩, hch, hk⟩ := chkTK_ok hck
    obtain ⟨hcx, hxk, hadd⟩ := repair_add hx
    have hW : writeL s.xs k = s.xs.map (fun c => (addC c.xs x).1) := by rw [writeL, if_pos h0, hx]
    rw [hW, hx]
    rw [hx] at HRd
    have hxg := chk_goodE hcx
    obtain ⟨x0, x1, x2, x3, x4⟩ := x
    simp only at hxk
    subst hxk
    have hk08 := keyB_true.1 hk
    simp only [E.val] at HRd
    rw [errV_zero] at HRd
    simp only
    rw [errV_zero]
    have Hs := hid hs
    have Hch := hid hch
    have Hadd := hid hadd
    have Hxg := hid hxg
    have Hk08 := hid hk08
    clear hW hx h0 hck hk hch hs hcx hadd hxg hk08
    go_enter Try.func23, Try.ntmps23
    go_wp2_with fail
    refine HRd.out.mono ?_
    rintro e w1 ⟨rfl, hb1⟩
    have Hb1 := hid hb1
    have hz1 := hb1.size
    clear hb1 HRd
    go_wp2_with fail
    go_loopw [8, 24] (fun o i wr => ∃ (j : Nat) (q : List (SlV E)), j ≤ s.xs.length ∧ i = .int .i64 j ∧ Ow cellS 1 w.heap.size 52 wr o q ∧ q.map SlV.xs = (s.xs.take j).map (fun c => (addC c.xs ⟨x0, x1, x2, x3, x4⟩).1) ∧ (∀ x ∈ q, OwnC w.heap.size wr x) ∧ Blk wr w1.heap.size 47 #[.int .i64 x0, .int .i64 x1, .int .i64 x2, .bool x3, .string x4] ∧ Below w.heap.size w wr) (fun _ i _ => s.xs.length - (intOf i).toNat)
    case atStart => exact ⟨0, [], Nat.zero_le _, rfl, Ow.nil _ _ _ _ _, rfl, (fun x hx => by cases hx), Blk.new _ _ _, Hb1.out.alloc hz1 _⟩
    case round =>
      obtain ⟨j, q, hj, rfl, hO, hq, hqo, hB, hbr⟩ := hrel
      have hz0 := hbr.size
      have hlo := hB.lt
      obtain ⟨Ao, co, hv, -, -, -⟩ := hO.form
      subst hv
      have HO := hid hO
      have HB := hid hB
      have Hbr := hid hbr
      have Hq := hid hq
      have Hqo := hid hqo
      have hql := hid (show q.length = j by
        have := congrArg List.length hq
        rw [List.length_map, List.length_map, List.length_take] at this
        omega)
      by_cases hlt : j < s.xs.length
      · obtain ⟨b, off, hA, hb, hcells⟩ := Hs.out.row (by omega)
        have hcell := hcells j hlt
        have hin := (Hs.out.each j hlt).stays hbr
        rw [← hbr.cell (p := ⟨b, off + j, none⟩) hb] at hcell
        have hmem := List.getElem_mem hlt
        obtain ⟨hn, _, hS, hK⟩ := chkC_ok (Hch.out _ hmem)
        obtain ⟨ha0, hac, -⟩ := Hadd.out _ hmem
        have hq2 := hid (show (s.xs.take (j + 1)).map (fun c => (addC c.xs ⟨x0, x1, x2, x3, x4⟩).1) = q.map SlV.xs ++ [(addC s.xs[j].xs ⟨x0, x1, x2, x3, x4⟩).1] by rw [List.take_succ_eq_append_getElem hlt, List.map_append, hq]; rfl)
        generalize s.xs[j] = c at *
        have HAd := hid (added_any c x0 x1 x2 x3 x4 wr Hxg.out Hk08.out hin.es hS hK hn)
        rw [ha0] at HAd
        have Hac := hid (val_good hac)
        generalize (addC c.xs ⟨x0, x1, x2, x3, x4⟩).1 = l2 at *
        have c0 := hB.cell 0
        have c1 := hB.cell 1
        have c2 := hB.cell 2
        have c3 := hB.cell 3
        have c4 := hB.cell 4
        simp at c0 c1 c2 c3 c4
        have HA := hid hA
        rw [hA]
        have hll : q.length ≤ 100000000 := by rw [hql.out]; omega
        clear hA hcells hS hK hO hB hbr hq hqo ha0 hac hmem hin
        go_wp2_with fail
        refine HAd.out.mono ?_
        rintro e w2 ⟨v2, rfl, hO2, hb2⟩
        obtain ⟨y, rfl, rfl, hy⟩ := OwnC.of_ow (hO2.mono hz0) Hac.out
        have hz2 := hb2.size
        have HOo := hid (HO.out.belowS hb2)
        have HB2 := hid (HB.out.belowS hb2)
        have Hb2 := hid (Below.step Hbr.out hb2 hz0)
        have Hy := hid hy
        have Hqo2 := hid (fun x (hx : x ∈ q) => (Hqo.out x hx).belowS hb2)
        have hl2 : w1.heap.size < w2.heap.size := by omega
        have hz3 := Hb2.out.size
        rw [errV_zero]
        clear hb2 HAd hcell hO2 hy c0 c1 c2 c3 c4
        go_wp2_with (at_builtin; refine appSE _ w.heap.size _ q y HOo.out rfl _ _ rfl rfl rfl rfl hll hz3 ?_)
        intro v8 w8 h8 f8 o8
        have HB8 := hid (HB2.out.fr f8 (fun e => HOo.out.apart HB2.out tyCE e))
        have Hb8 := hid (Hb2.out.trans (f8.below0 hz3 (fun i hi => HOo.out.ge _ hi)))
        have HO8 := hid h8
        have HQ8 := hid (show ∀ x ∈ q ++ [y], OwnC w.heap.size w8 x from fun x hx => by
          rcases List.mem_append.1 hx with hx | hx
          · exact (Hqo2.out x hx).keep HOo.out f8
          · rw [List.mem_singleton.1 hx]; exact Hy.out.keep HOo.out f8)
        obtain ⟨A8, c8, hv8, -, -, -⟩ := h8.form
        clear h8 f8 o8
        go_wp2_with fail
        go_roundw
        case rel => exact ⟨j + 1, q ++ [y], by omega, by go_num, HO8.out, by rw [hq2.out, List.map_append]; rfl, HQ8.out, HB8.out, Hb8.out⟩
        case measure => simp [intOf]; omega
      · obtain rfl : j = s.xs.length := by omega
        have hfin := hid (show RowC w.heap.size wr (.slice Ao q.length co) (s.xs.map (fun c => (addC c.xs ⟨x0, x1, x2, x3, x4⟩).1)) from ⟨q, HO.out, by rw [Hq.out, List.take_length], Hqo.out⟩)
        clear hO hq hqo hB hbr
        go_wp2_with fail
        refine bodyPost_ret (v := .tuple #[.slice Ao q.length co, .nilIface]) ?_ rfl ⟨_, rfl, hfin.out, Hbr.out⟩
        simp [results, Try.results23, go_sem]
  · have hW : writeL s.xs k = [] := by rw [writeL, if_neg h0]
    rw [hW]
    have Hen := hid (errV_ne h0)
    generalize readR s.xs k = R at *
    obtain ⟨⟨x0, x1, x2, x3, x4⟩, en⟩ := R
    simp only [E.val] at HRd Hen ⊢
    rw [Hen.out] at HRd
    clear h0 hW hs
    go_enter Try.func23, Try.ntmps23
    go_wp2_with fail
    refine HRd.out.mono ?_
    rintro e w1 ⟨rfl, hb1⟩
    have Hb1 := hid hb1
    have hz1 := hb1.size
    clear hb1 HRd
    go_wp2_with fail
    refine bodyPost_ret (v := .tuple #[.slice none 0 0, .iface 69 (.int .i64 en)]) ?_ rfl ⟨_, by rw [Hen.out], RowC.nil _ _, Hb1.out.alloc hz1 _⟩
    simp [results, Try.results23, go_sem]
end Go.Proofs.Ytdocdmpfokdjkaa
