/-
  PROVED HERE: meretop.TopOwners returns true: what is written to a key's owners is read of any of them, and of as many as are more than the others; what was kept when the power went tells the same. CONDITIONS: the library's variables as the program's text lays them (tied by the card).
-/
import Derived.Test.YtmgiecoeeidgoaaGreatDoorRgOwn
import Derived.Test.YtmgiecoeeidgoaaGreatDoorLogX
import Derived.Test.YtmgiecoeeidgoaaGreatDoorTopOne
import Derived.Test.YtmgiecoeeidgoaaGreatDoorOwnLaw
import Derived.Test.YtmgiecoeeidgoaaGreatDoorRepair
import Derived.Test.YtmgiecoeeidgoaaGreatDoorMeet
import Derived.Test.YtmgiecoeeidgoaaGreatDoorIn
import Derived.Test.YtmgiecoeeidgoaaGreatDoorDoorL
import Derived.ChangeVars
import Derived.JoinedOf
import Derived.Stop.Joined
import Derived.BigQuiet
namespace Go.Proofs.YtmgiecoeeidgoaaGreatDoor
open Go.RowKit
open Go.ChangeShapes Go.WideShapes Go.ChangeAt

theorem CachesAt.of_blk {w : World} {g : Nat} {q : List (SlV E)} (hB : Blk w g 43 (q.map SlV.val).toArray) (he : ∀ c ∈ q, EsAt w c) (hq : q.length ≤ 6) (n : Nat) : CachesAt w ⟨some ⟨g, 0, none⟩, n, q⟩ where
  row _ := ⟨g, 0, rfl, hB.lt, fun i hi => by
    have := hB.cell i
    rw [Nat.zero_add, this]
    simp at hi
    simp [hi, SlV.val]⟩
  each i hi := (he _ (List.getElem_mem hi)).entries
  len := by show q.length ≤ maxLen; unfold maxLen; omega
theorem own_make0 (N : Nat) (h6 : N ≤ 6) (W : World) : (Instr.makeSlice 42 (.int .i64 (N : Int)) (.int .i64 (N : Int))).run Tryz.prog W = .ok (.slice (some ⟨W.heap.size, 0, none⟩) N N) (W.alloc (.cells ((noneC N).map SlV.val).toArray 43)) := by
  obtain ⟨i0, hi0, hz0, hzs, hzb⟩ := info_parts infoSE
  have := run_make (P := Tryz.prog) W 42 43 i0 (.slice none 0 0) Tryz.underlying42 hi0 hz0 .i64 .i64 (N : Int) (N : Int) (by omega) (by omega) (by rw [hzb]; omega) (by omega)
  rw [Int.toNat_natCast, hzs, Nat.mul_one] at this
  rw [← made_none h6]
  exact this
theorem own_make (W : World) : (Instr.makeSlice 42 (.int .i64 6) (.int .i64 6)).run Tryz.prog W = .ok (.slice (some ⟨W.heap.size, 0, none⟩) 6 6) (W.alloc (.cells ((noneC 6).map SlV.val).toArray 43)) := own_make0 6 (Nat.le_refl 6) W
theorem none_xs (n j : Nat) (hj : j < (noneC n).length) : (noneC n)[j].xs = [] := by
  rw [(List.mem_replicate.1 (show (noneC n)[j] ∈ noneC n from List.getElem_mem hj)).2]
theorem not_take {l : List Int} (h : l.Nodup) {i : Nat} (hi : i < l.length) : ¬ l.getD i 0 ∈ l.take i := fun hx => by
  obtain ⟨j, hj, he⟩ := List.getElem_of_mem hx
  rw [List.length_take] at hj
  rw [List.getElem_take, getD_get 0 hi] at he
  exact List.pairwise_iff_getElem.1 h j i (by omega) hi (by omega) he
/-- an owner's cache is filled -/
theorem own_step {o : List Int} {k n : Nat} {q : List (SlV E)} {x : E} {y : SlV E} (hk : k < o.length) (hn : o.getD k 0 = (n : Int)) (h : ∀ j (hj : j < q.length), q[j].xs = if ((j : Nat) : Int) ∈ o.take k then [x] else []) (hy : y.xs = [x]) : ∀ j (hj : j < (q.set n y).length), (q.set n y)[j].xs = if ((j : Nat) : Int) ∈ o.take (k + 1) then [x] else [] := fun j hj => by
  rw [take_snocD 0 hk, hn, List.getElem_set]
  by_cases hjn : n = j
  · rw [if_pos hjn, hy, if_pos (by rw [hjn]; exact List.mem_append_right _ (List.mem_singleton.2 rfl))]
  · rw [if_neg hjn, h j (by simpa using hj)]
    have hi : ((j : Nat) : Int) ∈ o.take k ++ [(n : Int)] ↔ ((j : Nat) : Int) ∈ o.take k := by
      rw [List.mem_append, List.mem_singleton]
      exact ⟨fun h => h.resolve_right (by omega), fun h => .inl h⟩
    by_cases hm : ((j : Nat) : Int) ∈ o.take k
    · rw [if_pos hm, if_pos (hi.2 hm)]
    · rw [if_neg hm, if_neg (fun h => hm (hi.1 h))]
set_option maxHeartbeats 8000000 in
set_option maxRecDepth 100000 in
theorem topOwners_any (s : SlV Int) (each key many : Int) (t : ByteArray) (w : World) (hs : IntsAt w s) (hok : s.ok) (ht : t.size ≤ maxLen) (hT : Tv w) :
    Calls Tryz.prog 3 #[.slice s.A s.xs.length s.c, .int .i64 each, .int .i64 key, .string t, .int .i64 many] w fun e w' => e = .returned (.bool true) ∧ Below w.heap.size w w' := by
  have HO := hid (topone_any w)
  have HT := hid (fun W (hW : Below w.heap.size w W) => hT.belowS hW)
  have HPn := hid (fun W (hW : Below w.heap.size w W) => gpoints_any s each W (hs.stays0 hW) hok (hT.belowS hW).tb)
  have Ht := hid ht
  have htm := ht
  unfold maxLen at htm
  clear hs hT hok ht
  go_enter Tryz.func3, Tryz.ntmps3
  go_wp2_with fail
  refine HO.out.mono ?_
  rintro e w1 ⟨rfl, hb1⟩
  have HP1 := hid (HPn.out w1 hb1)
  have Hb1 := hid hb1
  have hz1 := hb1.size
  unfold GPts at HP1
  clear hb1 HO HPn
  go_wp2_with fail
  refine HP1.out.mono ?_
  clear HP1
  rintro e w2 ⟨r, rfl, hrx, hrA, hro, hb2⟩
  have Hb2 := hid (Below.step Hb1.out hb2 hz1)
  have hz2 := Hb2.out.size
  by_cases h0 : ptsE s.xs each = 0
  case neg =>
    rw [errV_ne h0]
    generalize ptsE s.xs each = en at *
    clear hb2 hrx hrA hro h0
    go_wp2_with fail
    go_ret
    exact ⟨rfl, Hb2.out⟩
  case pos =>
  rw [h0, errV_zero]
  rw [if_pos h0] at hrx
  have HOw := hid (rowners_any r key many w2 hrA hro (HT.out w2 Hb2.out).tb)
  unfold ROwns at HOw
  have HFx := hid (fun (ho : ownsE r.xs key many = 0) (o : List Int) (hx : o = ownL many (rotP r.xs (firstP r.xs key))) => own_facts (key := key) (many := many) (o := o) h0 (by rw [← hrx]; exact ho) (by rw [← hrx]; exact hx))
  generalize ownsE r.xs key many = en at *
  generalize ownL many (rotP r.xs (firstP r.xs key)) = oo at *
  clear hb2 hrx hrA hro h0
  go_wp2_with fail
  refine HOw.out.mono ?_
  clear HOw
  rintro e w3 ⟨o, rfl, hox, ⟨hoc, -⟩, hoA, hb3⟩
  have Hb3 := hid (Below.step Hb2.out hb3 hz2)
  have hz3 := Hb3.out.size
  by_cases hen : en = 0
  case neg =>
    rw [errV_ne hen]
    clear hox hoA hb3 hen HFx
    go_wp2_with fail
    go_ret
    exact ⟨rfl, Hb3.out⟩
  case pos =>
  subst hen
  rw [if_pos rfl] at hox
  obtain ⟨hkb, f1, f6, fn, fr⟩ := HFx.out rfl o.xs hox
  rw [errV_zero]
  have HOA := hid (fun W (hW : Below w3.heap.size w3 W) => hoA.stays0 hW)
  have HTB := hid ((HT.out w3 Hb3.out).base)
  have HN := hid (xnew w3)
  have Hkb := hid hkb
  have Hfn := hid fn
  have Hfr := hid fr
  obtain ⟨hk0, hk8⟩ := keyB_true.1 hkb
  clear hox hoA hb3 HFx hkb fn fr
  go_wp2_with fail
  refine HN.out.mono ?_
  clear HN
  rintro e w4 ⟨l, rfl, hX4, hb34⟩
  have hz34 := hb34.size
  have Hb4 := hid (Below.step Hb3.out hb34 hz3)
  have HP := hid (xput hX4 (HTB.out.step hb34) key t Ht.out)
  by_cases hbig : 12 < t.size
  case pos =>
    have hp1 := own_big Hkb.out hbig
    rw [hp1] at HP
    generalize (LG.new.put key t).2 = G at *
    simp only at HP
    rw [errV_ne (show (4 : Int) ≠ 0 by decide)] at HP
    have hgt : (12 : Int) < (t.size : Int) := by omega
    have Hb34 := hid hb34
    clear hX4 hb34 hp1 hbig
    go_wp2_with fail
    refine HP.out.mono ?_
    rintro e w5 ⟨rfl, hX5, hb5⟩
    have Hb5 := hid (Hb4.out.trans (hb5.mono hz3))
    clear hX5 hb5 HP
    go_wp2_with fail
    go_ret
    exact ⟨rfl, Hb5.out⟩
  case neg =>
  have ht12 : t.size ≤ 12 := by omega
  obtain ⟨A, B, e1, e2, e3⟩ := own_log Hkb.out ht12
  rw [e1] at HP
  simp only at HP
  rw [errV_zero] at HP
  have Hb34 := hid hb34
  have E2 := hid e2
  have E3 := hid e3
  clear hX4 hb34 e1 e2 e3 hbig
  go_wp2_with fail
  refine HP.out.mono ?_
  clear HP
  rintro e w5 ⟨rfl, hX5, hb5⟩
  have Hb35 := hid (Hb34.out.trans hb5)
  have HS := hid (xsync hX5)
  rw [E2.out] at HS
  simp only at HS
  rw [errV_zero] at HS
  clear hX5 hb5
  go_wp2_with fail
  refine HS.out.mono ?_
  clear HS
  rintro e w6 ⟨rfl, hX6, hb6⟩
  have Hb36 := hid (Hb35.out.trans hb6)
  have HC := hid (xcrash hX6 (HTB.out.step Hb36.out) 0 (by omega))
  clear hX6 hb6
  go_wp2_with fail
  refine HC.out.mono ?_
  clear HC
  rintro e w7 ⟨⟨cv, rfl⟩, hX7, hb7⟩
  have Hb37 := hid (Hb36.out.trans hb7)
  have HR := hid (xread hX7 key)
  rw [E3.out] at HR
  simp only [E.val] at HR
  rw [errV_zero] at HR
  have hz37 := Hb37.out.size
  clear hX7 hb7
  go_wp2_with fail
  refine HR.out.mono ?_
  clear HR
  rintro e w8 ⟨rfl, hb8⟩
  have Hb38 := hid (Below.step Hb37.out hb8 hz37)
  have hz38 := Hb38.out.size
  clear hb8
  have hchk : chk ⟨key, 1, 1, false, t⟩ = 0 := chk_zero.2 ⟨Hkb.out, (show seqB 1 = true by decide), (show seqB 1 = true by decide), (show (1 : Int) ≤ 1 by decide), ht12, fun h => by cases h⟩
  have HCk := hid (fun W => show Calls Tryz.prog 12 #[.agg #[.int .i64 key, .int .i64 1, .int .i64 1, .bool false, .string t]] W (fun e w' => e = .returned .nilIface ∧ Below W.heap.size W w') from by
    have := check_any key 1 1 false t W Ht.out
    rw [hchk, errV_zero] at this
    exact this)
  have Hchk := hid hchk
  clear hchk
  go_upto_region 18 with fail
  obtain ⟨w9, hw9⟩ : ∃ W : World, W = w8.alloc (.cells #[.int .i64 key, .int .i64 1, .int .i64 1, .bool false, .string t] 38) := ⟨_, rfl⟩
  rw [← hw9]
  have hB9 : Blk w9 w8.heap.size 38 #[.int .i64 key, .int .i64 1, .int .i64 1, .bool false, .string t] := by rw [hw9]; exact Blk.new _ _ _
  have Hb39 := hid (show Below w3.heap.size w3 w9 by rw [hw9]; exact Hb38.out.alloc hz38 _)
  have HB9 := hid (fun W (hW : Below w9.heap.size w9 W) => hB9.belowS hW)
  have hl9 := hB9.lt
  have hz39 := Hb39.out.size
  clear hw9 hB9
  go_cut [89] (fun bv wx => bv = .bool false ∧ Below w9.heap.size w9 wx)
  case first =>
    have hB := HB9.out w9 (Below.refl _ _)
    have c0 : w9.cell? ⟨w8.heap.size, 0, none⟩ = some (.int .i64 key) := hB.cell 0
    have c1 : w9.cell? ⟨w8.heap.size, 1, none⟩ = some (.int .i64 1) := hB.cell 1
    have c2 : w9.cell? ⟨w8.heap.size, 2, none⟩ = some (.int .i64 1) := hB.cell 2
    have c3 : w9.cell? ⟨w8.heap.size, 3, none⟩ = some (.bool false) := hB.cell 3
    have c4 : w9.cell? ⟨w8.heap.size, 4, none⟩ = some (.string t) := hB.cell 4
    clear hB
    go_wp2_with fail
    refine (HCk.out _).mono ?_
    rintro e wx ⟨rfl, hbx⟩
    have Hbx := hid hbx
    clear hbx
    go_wp2_with fail
    go_meet
    exact ⟨rfl, Hbx.out⟩
  case rest =>
  obtain ⟨rfl, hcut⟩ := hcut
  obtain ⟨wa, rfl⟩ : ∃ wa : World, wa = wc := ⟨_, rfl⟩
  have Hb3a := hid (Below.step Hb39.out hcut hz39)
  have Hb9a := hid hcut
  have hz9a := hcut.size
  have hz3a := Hb3a.out.size
  have hmk := own_make
  clear hcut HCk
  go_upto_region 21 with fail
  obtain ⟨wb, hwb⟩ : ∃ W : World, W = wa.alloc (.cells ((noneC 6).map SlV.val).toArray 43) := ⟨_, rfl⟩
  rw [← hwb]
  have HRb := hid (show Blk wb wa.heap.size 43 ((noneC 6).map SlV.val).toArray by rw [hwb]; exact Blk.new _ _ _)
  have Hb9b := hid (show Below w9.heap.size w9 wb by rw [hwb]; exact Hb9a.out.alloc hz9a _)
  have hzab : wa.heap.size < wb.heap.size := HRb.out.lt
  clear hwb hmk
  have hox6 : o.xs.length ≤ 6 := f6
  go_upto_block 0 with fail
  go_cut [] (fun wx => ∃ q : List (SlV E), q.length = 6 ∧ Blk wx wa.heap.size 43 (q.map SlV.val).toArray ∧ (∀ c ∈ q, OwnC w9.heap.size wx c) ∧ (∀ j (hj : j < q.length), q[j].xs = if ((j : Nat) : Int) ∈ o.xs then [⟨key, 1, 1, false, t⟩] else []) ∧ Below w9.heap.size w9 wx)
  case first =>
    go_wp2_with fail
    go_loopw [19] (fun i wr => ∃ (k : Nat) (q : List (SlV E)), k ≤ o.xs.length ∧ i = .int .i64 k ∧ q.length = 6 ∧ Blk wr wa.heap.size 43 (q.map SlV.val).toArray ∧ (∀ c ∈ q, OwnC w9.heap.size wr c) ∧ (∀ j (hj : j < q.length), q[j].xs = if ((j : Nat) : Int) ∈ o.xs.take k then [⟨key, 1, 1, false, t⟩] else []) ∧ Below w9.heap.size w9 wr) (fun i _ => o.xs.length - (intOf i).toNat)
    case atStart =>
      refine ⟨0, noneC 6, Nat.zero_le _, rfl, rfl, HRb.out, fun c hc => ?_, fun j hj => ?_, Hb9b.out⟩
      · rw [(List.mem_replicate.1 hc).2]; exact OwnC.none _ _
      · rw [List.take_zero, if_neg (by simp)]
        exact none_xs 6 j hj
    case round =>
      obtain ⟨k, q, hk, rfl, hq6, hRow, hOwn, hInv, hbr⟩ := hrel
      obtain ⟨wj, rfl⟩ : ∃ wj : World, wj = wr := ⟨_, rfl⟩
      have Hbr := hid hbr
      have hzr := hbr.size
      have Hq6 := hid hq6
      have HRow := hid hRow
      have HOwn := hid hOwn
      by_cases hlt : k < o.xs.length
      · obtain ⟨b3, off3, hA3, hg3, hc3⟩ := (HOA.out wj (Below.step Hb39.out hbr hz39)).row (by omega)
        have cx := hc3 k hlt
        have hnt := not_take Hfn.out hlt
        obtain ⟨n0, n6⟩ := Hfr.out _ (getD_memD 0 hlt)
        have HSt := hid (fun (n : Nat) (y : SlV E) (hn : o.xs.getD k 0 = (n : Int)) => own_step (x := ⟨key, 1, 1, false, t⟩) (n := n) (y := y) hlt hn hInv)
        obtain ⟨n, hn⟩ := Int.eq_ofNat_of_zero_le n0
        rw [hn] at cx hnt n6
        have Hn := hid hn
        have hnq : n < q.length := by omega
        have hcx := hInv n hnq
        rw [if_neg hnt] at hcx
        have cat : wj.cell? ⟨wa.heap.size, n, none⟩ = some (.slice q[n].A q[n].xs.length q[n].c) := by
          have := hRow.cell n
          rw [this]
          simp [hnq, SlV.val]
        have hown := hOwn _ (List.getElem_mem hnq)
        have hlg := hRow.lt
        have hfz := hRow.frozen n
        obtain ⟨bb, hbb⟩ := own_add Hchk.out
        generalize q[n] = c at *
        have HAd := hid (fun W (hW : Below wj.heap.size wj W) => cadd_any c key 1 1 false t W Ht.out (hown.belowS hW).es)
        rw [show addR c.xs ⟨key, 1, 1, false, t⟩ = ([⟨key, 1, 1, false, t⟩], bb, 0) from by rw [hcx]; exact hbb] at HAd
        unfold ARes at HAd
        simp only at HAd
        rw [errV_zero] at HAd
        have hn0 : ¬ (n : Int) < 0 := by omega
        have hn5 : ¬ (5 : Int) < (n : Int) := by omega
        have hn6 : (n : Int) < 6 := by omega
        have hB := HB9.out wj hbr
        have c0 : wj.cell? ⟨w8.heap.size, 0, none⟩ = some (.int .i64 key) := hB.cell 0
        have c1 : wj.cell? ⟨w8.heap.size, 1, none⟩ = some (.int .i64 1) := hB.cell 1
        have c2 : wj.cell? ⟨w8.heap.size, 2, none⟩ = some (.int .i64 1) := hB.cell 2
        have c3 : wj.cell? ⟨w8.heap.size, 3, none⟩ = some (.bool false) := hB.cell 3
        have c4 : wj.cell? ⟨w8.heap.size, 4, none⟩ = some (.string t) := hB.cell 4
        have hlB := hB.lt
        have hkc : (k : Int) < (o.xs.length : Int) := by omega
        have hko : k ≤ o.c := by omega
        rw [hA3]
        clear hA3 hc3 hnt hcx hInv hRow hOwn hown hbb hB hbr hn n0
        go_upto_region 26 with fail
        go_cut [20, 22] (fun a er wx => er = .nilIface ∧ (∃ y : SlV E, a = .slice y.A y.xs.length y.c ∧ y.xs = [⟨key, 1, 1, false, t⟩] ∧ OwnC w9.heap.size wx y) ∧ Below wj.heap.size wj wx)
        case first =>
          go_region_law (first | (go_simp; go_at_call 13; refine (HAd.out _ (Below.manyDrew (Below.refl _ _) 1)).mono ?_; rintro e wy ⟨vy, rfl, hOy, hby⟩; have hby2 : Below wj.heap.size wj wy := (Below.manyDrew (Below.refl _ _) 1).trans hby))
          all_goals
            go_wp2_with fail
            go_meet
            refine ⟨rfl, ?_, hby2⟩
            obtain ⟨y, rfl, hyx, hyo⟩ := OwnC.of_ow (hOy.mono (show w9.heap.size ≤ _ from hzr)) (fun z hz => by rw [List.mem_singleton.1 hz]; exact chk_goodE Hchk.out)
            exact ⟨y, rfl, hyx, hyo⟩
        case rest =>
        obtain ⟨rfl, ⟨y, rfl, hyx, hyo⟩, hbx⟩ := hcut
        obtain ⟨wx, rfl⟩ : ∃ wx : World, wx = wc := ⟨_, rfl⟩
        have hRx := HRow.out.belowS hbx
        have cgx := (hbx.cell (p := ⟨b3, off3 + k, none⟩) hg3).trans cx
        have hfx := hRx.frozen n
        have hlx := hRx.lt
        have hcgx := hRx.cell n
        have hb3x : b3 < wx.heap.size := by have := hbx.size; omega
        have HRx := hid hRx
        have Hyo := hid hyo
        have Hyx := hid hyx
        have Hbx := hid (Below.step Hbr.out hbx hzr)
        have HOx := hid (fun c hc => (HOwn.out c hc).belowS hbx)
        have hnm : ((q.map SlV.val).toArray)[n]? = some q[n].val := by simp [hnq]
        rw [hnm] at hcgx
        clear hRx hyo hyx hbx c0 c1 c2 c3 c4 cat cx hfz hnm HAd HRow HOwn
        go_wp2_with fail
        go_roundw
        case rel =>
          refine ⟨k + 1, q.set n y, by omega, by go_num, by rw [List.length_set]; exact Hq6.out, ?_, fun c hc => ?_, HSt.out n y Hn.out Hyx.out, ?_⟩
          · show Blk (wx.setCell ⟨wa.heap.size, n, none⟩ y.val) _ _ _
            have := HRx.out.put n y.val
            rw [List.map_set]
            simpa using this
          · have hx : OwnC w9.heap.size wx c := by
              rcases List.mem_or_eq_of_mem_set hc with hc | rfl
              · exact HOx.out c hc
              · exact Hyo.out
            exact ⟨hx.1.fr ((Fr.refl (fun i => i = wa.heap.size) wx).setCell (p := ⟨wa.heap.size, n, none⟩) (.inl rfl) _) (fun i hi => hx.1.apartB HRx.out tyR1 hi), hx.2⟩
          · exact Hbx.out.setCell (p := ⟨wa.heap.size, n, none⟩) (by show w9.heap.size ≤ wa.heap.size; exact hz9a) _
        case measure => simp [intOf]; omega
      · obtain rfl : k = o.xs.length := by omega
        rw [List.take_length] at hInv
        have HInv := hid hInv
        clear hInv hRow hOwn hbr hq6
        go_wp2_with fail
        go_meet
        exact ⟨q, Hq6.out, HRow.out, HOwn.out, HInv.out, Hbr.out⟩
  case rest =>
  obtain ⟨q, hq6, hRow, hOwn, hInv, hbc⟩ := hcut
  obtain ⟨wd, rfl⟩ : ∃ wd : World, wd = wc := ⟨_, rfl⟩
  have HRow := hid (fun W (hW : Below wd.heap.size wd W) => hRow.belowS hW)
  have HOwn := hid (fun W (hW : Below wd.heap.size wd W) c hc => (hOwn c hc).belowS hW)
  have HInv := hid hInv
  have Hq6 := hid hq6
  have Hb9d := hid hbc
  have Hb3d := hid (Below.step Hb39.out hbc hz39)
  have hzd := hbc.size
  have hz3d := Hb3d.out.size
  have hlg := hRow.lt
  clear hq6 hRow hOwn hInv hbc HRb
  go_upto_block 2 with fail
  go_cut [] (fun wx => Below wd.heap.size wd wx)
  case first =>
    go_wp2_with fail
    go_loopw [23] (fun i wr => ∃ k : Nat, k ≤ o.xs.length ∧ i = .int .i64 k ∧ Below wd.heap.size wd wr) (fun i _ => o.xs.length - (intOf i).toNat)
    case atStart => exact ⟨0, Nat.zero_le _, rfl, Below.refl _ _⟩
    case round =>
      obtain ⟨k, hk, rfl, hbr⟩ := hrel
      obtain ⟨wj, rfl⟩ : ∃ wj : World, wj = wr := ⟨_, rfl⟩
      have Hbr := hid hbr
      have hzr := hbr.size
      by_cases hlt : k < o.xs.length
      · obtain ⟨b3, off3, hA3, hg3, hc3⟩ := (HOA.out wj (Below.step Hb3d.out hbr hz3d)).row (by omega)
        have cx := hc3 k hlt
        have hmem := getD_memD 0 hlt
        obtain ⟨n0, n6⟩ := Hfr.out _ hmem
        obtain ⟨n, hn⟩ := Int.eq_ofNat_of_zero_le n0
        rw [hn] at cx n6 hmem
        have hnq : n < q.length := by have := Hq6.out; omega
        have hcx := HInv.out n hnq
        rw [if_pos hmem] at hcx
        have hRow := HRow.out wj hbr
        have cat : wj.cell? ⟨wa.heap.size, n, none⟩ = some (.slice q[n].A q[n].xs.length q[n].c) := by
          have := hRow.cell n
          rw [this]
          simp [hnq, SlV.val]
        have hown := HOwn.out wj hbr _ (List.getElem_mem hnq)
        have hlgr := hRow.lt
        generalize q[n] = c at *
        obtain ⟨X, hX⟩ : ∃ X : World, X = wj.alloc (.cells #[.slice none 0 0, .slice c.A c.xs.length c.c] 43) := ⟨_, rfl⟩
        have hbX : Below wj.heap.size wj X := by rw [hX]; exact (Below.refl _ _).alloc (Nat.le_refl _) _
        have hBX : Blk X wj.heap.size 43 (([⟨none, 0, []⟩, c] : List (SlV E)).map SlV.val).toArray := by rw [hX]; exact Blk.new _ _ _
        have hRd := read_any ⟨some ⟨wj.heap.size, 0, none⟩, 2, [⟨none, 0, []⟩, c]⟩ key X (CachesAt.of_blk hBX (fun d hd => by
          rcases List.mem_cons.1 hd with rfl | hd
          · exact EsAt.empty _ _ _
          · rw [List.mem_singleton.1 hd]; exact (hown.belowS hbX).es) (show 2 ≤ 6 by omega) 2)
        rw [show readR (⟨some ⟨wj.heap.size, 0, none⟩, 2, [⟨none, 0, []⟩, c]⟩ : SlV (SlV E)).xs key = (⟨key, 1, 1, false, t⟩, 0) from readR_one (x := ⟨key, 1, 1, false, t⟩) Hchk.out rfl Hkb.out (show 1 ≤ 2 by omega) (show 2 ≤ 6 by omega) (fun d hd => by
          rcases List.mem_cons.1 hd with rfl | hd
          · exact .inl rfl
          · rw [List.mem_singleton.1 hd]; exact .inr hcx) ⟨c, by simp, hcx⟩, errV_zero] at hRd
        simp only [E.val] at hRd
        have HRd := hid hRd
        have HX := hid hX
        have HbX := hid (Below.step Hbr.out hbX hzr)
        have hn6' : (n : Int) < 6 := by omega
        have hkc : (k : Int) < (o.xs.length : Int) := by omega
        have hko : k ≤ o.c := by omega
        rw [hA3]
        clear hA3 hc3 hmem hcx hRow hown hbX hBX hRd hX hbr hn n0
        go_wp2_with fail
        rw [← HX.out]
        refine HRd.out.mono ?_
        rintro e we ⟨rfl, hbe⟩
        have Hbe := hid (Below.step HbX.out hbe HbX.out.size)
        have hze := Hbe.out.size
        clear hbe HRd
        go_upto_region 34 with fail
        obtain ⟨wf, hwf⟩ : ∃ W : World, W = we.alloc (.cells #[.int .i64 key, .int .i64 1, .int .i64 1, .bool false, .string t] 38) := ⟨_, rfl⟩
        rw [← hwf]
        have hY : Blk wf we.heap.size 38 #[.int .i64 key, .int .i64 1, .int .i64 1, .bool false, .string t] := by rw [hwf]; exact Blk.new _ _ _
        have Hbf := hid (show Below wd.heap.size wd wf by rw [hwf]; exact Hbe.out.alloc hze _)
        have hB := HB9.out wf (Below.step Hb9d.out Hbf.out hzd)
        have c0 : wf.cell? ⟨w8.heap.size, 0, none⟩ = some (.int .i64 key) := hB.cell 0
        have c1 : wf.cell? ⟨w8.heap.size, 1, none⟩ = some (.int .i64 1) := hB.cell 1
        have c2 : wf.cell? ⟨w8.heap.size, 2, none⟩ = some (.int .i64 1) := hB.cell 2
        have c3 : wf.cell? ⟨w8.heap.size, 3, none⟩ = some (.bool false) := hB.cell 3
        have c4 : wf.cell? ⟨w8.heap.size, 4, none⟩ = some (.string t) := hB.cell 4
        have y0 : wf.cell? ⟨we.heap.size, 0, none⟩ = some (.int .i64 key) := hY.cell 0
        have y1 : wf.cell? ⟨we.heap.size, 1, none⟩ = some (.int .i64 1) := hY.cell 1
        have y2 : wf.cell? ⟨we.heap.size, 2, none⟩ = some (.int .i64 1) := hY.cell 2
        have y3 : wf.cell? ⟨we.heap.size, 3, none⟩ = some (.bool false) := hY.cell 3
        have y4 : wf.cell? ⟨we.heap.size, 4, none⟩ = some (.string t) := hY.cell 4
        have hlB := hB.lt
        have hlY := hY.lt
        have heq := fun W => eqRunE key 1 1 false t key 1 1 false t W
        rw [eqbE_refl] at heq
        clear hwf hY hB cx cat HX
        go_wp2_with fail
        go_roundw
        case rel => exact ⟨k + 1, by omega, by go_num, Hbf.out⟩
        case measure => simp [intOf]; omega
      · clear hbr
        go_wp2_with fail
        go_meet
        exact Hbr.out
  case rest =>
  obtain ⟨we, rfl⟩ : ∃ we : World, we = wc := ⟨_, rfl⟩
  have HCa := hid (fun W (hW : Below we.heap.size we W) => CachesAt.of_blk (HRow.out W (Below.step hcut hW hcut.size)) (fun c hc => (HOwn.out W (Below.step hcut hW hcut.size) c hc).es) (by have := Hq6.out; omega) 6)
  obtain ⟨t1, t2, t3, t4, t5, t6⟩ := own_tells (k := key) Hchk.out rfl Hkb.out rfl Hfn.out Hfr.out f1 Hq6.out HInv.out
  have HLk := hid (fun W (hW : Below we.heap.size we W) => by
    have := lacks_any ⟨some ⟨wa.heap.size, 0, none⟩, 6, q⟩ key W (HCa.out W hW)
    rw [show (⟨some ⟨wa.heap.size, 0, none⟩, 6, q⟩ : SlV (SlV E)).xs.length = 6 from Hq6.out] at this
    exact this)
  have HMk := hid (fun W (hW : Below we.heap.size we W) => by
    have := mark_any ⟨some ⟨wa.heap.size, 0, none⟩, 6, q⟩ key W (HCa.out W hW)
    rw [show (⟨some ⟨wa.heap.size, 0, none⟩, 6, q⟩ : SlV (SlV E)).xs.length = 6 from Hq6.out] at this
    exact this)
  have HMt := hid (fun W => by
    have := meet_ways 6 (o.xs.length : Int) (6 - (o.xs.length : Int) + 1) W
    have h0 : meetE 6 (o.xs.length : Int) (6 - (o.xs.length : Int) + 1) = 0 := by rw [meetE, if_neg (by omega)]
    rw [h0, errV_zero, decide_eq_true ⟨rfl, by omega⟩] at this
    exact this)
  have Hb9e := hid (Below.step Hb9d.out hcut hzd)
  have Hb3e := hid (Below.step Hb3d.out hcut hz3d)
  have hze := Hb9e.out.size
  simp only at HLk HMk
  rw [t1, errV_zero] at HLk
  rw [t4, errV_zero] at HMk
  generalize (lacksR q key).1 = L at *
  generalize (markR q key).1 = mk at *
  have T2 := hid t2
  have T3 := hid t3
  have T5 := hid t5
  have T6 := hid t6
  clear t1 t2 t3 t4 t5 t6 hcut HCa HInv HOwn HRow
  have HLe := hid (HLk.out we (Below.refl _ _))
  go_wp2_with fail
  refine HLe.out.mono ?_
  rintro e wf ⟨z, rfl, hzx, hzA, hbf⟩
  have HZA := hid (fun W (hW : Below wf.heap.size wf W) => hzA.stays0 hW)
  have hzl : (z.xs.length : Int) = 6 - (o.xs.length : Int) := by rw [hzx]; have := T2.out; omega
  have HZN := hid (show ∀ n ∈ z.xs, inL n o.xs = false from fun n hn => inL_false.2 (T3.out n (by rw [← hzx]; exact hn)))
  have Hbf := hid hbf
  have hzf := hbf.size
  have hzlen := hzA.len
  unfold maxLen at hzlen
  have Hzl := hid hzl
  have hw1 : wrap64 (6 - (o.xs.length : Int)) = 6 - (o.xs.length : Int) := by unfold wrap64; omega
  have hw2 : wrap64 (6 - (o.xs.length : Int) + 1) = 6 - (o.xs.length : Int) + 1 := by unfold wrap64; omega
  clear hzx hzA hbf HLe HLk hzl
  go_wp2_with fail
  refine (HMt.out _).mono ?_
  rintro e wg ⟨rfl, hbg⟩
  have Hbg := hid (Below.step Hbf.out hbg hzf)
  have Hbfg := hid hbg
  have HMk2 := hid (HMk.out wg Hbg.out)
  clear hbg HMt HMk
  go_wp2_with fail
  refine HMk2.out.mono ?_
  rintro e wh ⟨rfl, hbh⟩
  have Hbh := hid (Below.step Hbg.out hbh Hbg.out.size)
  have Hbfh := hid (Below.step Hbfg.out hbh Hbfg.out.size)
  have Hb3h := hid (Below.step Hb3e.out Hbh.out Hb3e.out.size)
  have hB := HB9.out wh (Below.step Hb9e.out Hbh.out hze)
  have c2 : wh.cell? ⟨w8.heap.size, 2, none⟩ = some (.int .i64 1) := hB.cell 2
  have hlB := hB.lt
  have g1 : ((z.xs.length : Int) != 6 - (o.xs.length : Int)) = false := by rw [Hzl.out]; simp
  clear hbh HMk2 hB
  go_upto_region 39 with fail
  go_cut [220] (fun b wx => b = .bool false ∧ wx = wh)
  case first =>
    by_cases hl6 : o.xs.length = 6
    · have e1 : ((o.xs.length : Int) == 6) = true := by rw [beq_iff_eq]; omega
      have e2 : ¬ (o.xs.length : Int) < 6 := by omega
      obtain rfl := T5.out hl6
      clear hl6
      go_wp2_with fail
      go_meet
      exact ⟨rfl, rfl⟩
    · have e1 : ((o.xs.length : Int) == 6) = false := by rw [beq_eq_false_iff_ne]; omega
      have e2 : (o.xs.length : Int) < 6 := by omega
      obtain rfl := T6.out (by omega)
      clear hl6
      go_wp2_with fail
      go_meet
      exact ⟨rfl, rfl⟩
  case rest =>
  obtain ⟨rfl, hwc⟩ := hcut
  obtain rfl : wh = wc := hwc.symm
  clear c2 g1 hw1 hw2
  go_wp2_with fail
  go_loopw [31] (fun i wr => ∃ k : Nat, k ≤ z.xs.length ∧ i = .int .i64 k ∧ Below wh.heap.size wh wr) (fun i _ => z.xs.length - (intOf i).toNat)
  case atStart => exact ⟨0, Nat.zero_le _, rfl, Below.refl _ _⟩
  case round =>
    obtain ⟨k, hk, rfl, hbr⟩ := hrel
    obtain ⟨wj, rfl⟩ : ∃ wj : World, wj = wr := ⟨_, rfl⟩
    have Hbr := hid hbr
    by_cases hlt : k < z.xs.length
    · obtain ⟨b3, off3, hA3, hg3, hc3⟩ := (HZA.out wj (Below.step Hbfh.out hbr Hbfh.out.size)).row (by omega)
      have cx := hc3 k hlt
      have hno := HZN.out _ (getD_memD 0 hlt)
      have HI := hid (in_any o (z.xs.getD k 0) wj (HOA.out wj (Below.step Hb3h.out hbr Hb3h.out.size)))
      rw [hno] at HI
      generalize z.xs.getD k 0 = n at *
      have hkc : (k : Int) < (z.xs.length : Int) := by omega
      rw [hA3]
      clear hA3 hc3 hno hbr
      go_wp2_with fail
      refine HI.out.mono ?_
      rintro e wq ⟨rfl, hwq⟩
      obtain rfl : wj = wq := hwq
      go_wp2_with fail
      go_roundw
      case rel => exact ⟨k + 1, by omega, by go_num, Hbr.out⟩
      case measure => simp [intOf]; omega
    · clear hbr
      go_wp2_with fail
      go_ret
      exact ⟨rfl, Below.step Hb3.out (Below.step Hb3h.out Hbr.out Hb3h.out.size) hz3⟩

set_option maxRecDepth 100000 in
theorem trodAll_fiveO {H : Type} {enc : TypeId × Value → H} {P : Program} {w : World} {base : Nat} {sp : Nat → Bool} {held : Bool} {t t' t'' t3 t4 : TypeId} {args : Array Value} {ds : List (DataW H)} {ps : List MemPlace} (h : DataW.TrodAll enc P w base sp held [t, t', t'', t3, t4] args.toList ds ps) :
    ∃ v v' v'' v3 v4 d d' d'' d3 d4 p p' p'' p3 p4, args = #[v, v', v'', v3, v4] ∧ ds = [d, d', d'', d3, d4] ∧ ps = p ++ (p' ++ (p'' ++ (p3 ++ (p4 ++ [])))) ∧ DataW.Trod enc P w base sp held t v d p ∧ DataW.Trod enc P w base sp held t' v' d' p' ∧ DataW.Trod enc P w base sp held t'' v'' d'' p'' ∧ DataW.Trod enc P w base sp held t3 v3 d3 p3 ∧ DataW.Trod enc P w base sp held t4 v4 d4 p4 := by
  obtain ⟨v, vs, d, ds', p, q, e1, rfl, rfl, h1, h⟩ := trodAll_cons h
  obtain ⟨v', vs', d', ds'', p', q', rfl, rfl, rfl, h2, h⟩ := trodAll_cons h
  obtain ⟨v'', vs'', d'', ds3, p'', q'', rfl, rfl, rfl, h3, h⟩ := trodAll_cons h
  obtain ⟨v3, vs3, d3, ds4, p3, q3, rfl, rfl, rfl, h4, h⟩ := trodAll_cons h
  obtain ⟨v4, vs4, d4, ds5, p4, q4, rfl, rfl, rfl, h5, h⟩ := trodAll_cons h
  obtain ⟨rfl, rfl, rfl⟩ := trodAll_nil h
  refine ⟨v, v', v'', v3, v4, d, d', d'', d3, d4, p, p', p'', p3, p4, ?_, rfl, rfl, h1, h2, h3, h4, h5⟩
  exact Array.toList_inj.1 (by simpa using e1)
set_option maxRecDepth 100000 in
theorem topOwners_walk : LawWalk Tryz.prog 3 Tryz.f3 Tv := by
  intro W base args H enc ds p hval hA hgl
  rw [Tryz.params3] at hA hval
  obtain ⟨v0, v1, v2, v3, v4, d0, d1, d2, d3, d4, p0, p1, p2, p3, p4, rfl, rfl, rfl, h0, h1, h2, h3, h4⟩ := trodAll_fiveO hA
  obtain ⟨s, rfl, hs⟩ := arg_slice Tryz.underlying22 (Codec.int Tryz.underlying3) (pos_of_eq Tryz.cellsInt (by decide)) (hval 0 22 v0 rfl rfl) h0
  obtain ⟨i, rfl, _⟩ := arg_int Tryz.underlying3 (hval 1 3 v1 rfl rfl) h1
  obtain ⟨j, rfl, _⟩ := arg_int Tryz.underlying3 (hval 2 3 v2 rfl rfl) h2
  obtain ⟨t, rfl, ht⟩ := arg_str Tryz.underlying9 (hval 3 9 v3 rfl rfl) h3
  obtain ⟨m, rfl, _⟩ := arg_int Tryz.underlying3 (hval 4 3 v4 rfl rfl) h4
  exact topOwners_any s i j m t W (intsAt_of hs) ⟨hs.2.2.1, hs.2.2.2⟩ ht hgl

set_option maxRecDepth 100000 in
theorem topOwners_lifted (os : Os) (started : os.Started) (H : Type) (enc : TypeId × Value → H) :
    ReturnsInHanded {} Tryz.checked os 3 .any (fun w args => (Rows.topOwnersSpec.pre enc Tryz.checked.prog Tryz.f3 [] false w args ∧ laidMetH Tryz.prog laid7 w) ∧ sizedMet enc Tryz.checked.prog Tryz.f3 (OpenSpec.ofChange Rows.topOwnersSpec) false w args) (Rows.topOwnersSpec.post enc Tryz.checked.prog Tryz.f3 false true false false) :=
  laid_lifted (C := Tryz.checked) laid7 (fun _ h => tb_of_laid7 h) [] Tryz.own started (by kernel_rfl) Tryz.func3 Tryz.laidOut (by kernel_rfl) rfl Tryz.underlying4 rfl (fun ds h => by match ds, h with | [_, _, _, _, _], _ => rfl)
    (ChangeSpec.witness_shaped (enc := enc) (C := Tryz.checked) (os := os) (X := fun w _ => laidMetH Tryz.prog laid7 w) false (World.doorLaid Tryz.prog 4000 os) #[.slice none 0 0, .int .i64 0, .int .i64 0, .string ⟨#[]⟩, .int .i64 0] 8 rfl (World.shaped_of_RefB (by kernel_rfl) (by kernel_rfl)) (by kernel_rfl) (by kernel_rfl) (by kernel_rfl) (door_met7 os _)) topOwners_walk

theorem topOwners_row : Rows.TopOwnersSaid :=
  OpenClaim.holds_of_wide 3 Tryz.f3 rfl rfl rfl rfl rfl rfl rfl ⟨rfl, rfl, rfl, rfl, rfl⟩ rfl rfl rfl rfl rfl (by kernel_rfl) Tryz.func3 (by kernel_rfl)
    (of_decide_eq_true (by kernel_rfl)) (by unfold Func.isWrapper; rw [if_neg (of_decide_eq_false (by kernel_rfl))]; exact ⟨rfl, rfl⟩)
    (fun os started H enc _ => topOwners_lifted os started H enc)

theorem topOwners_holds : Rows.TopOwnersCardSaid :=
  Claim7.holds_tied_plain_at .later [] [.data, .data, .data, .sentinel, .sentinel, .listed, .data] true _ true
    topOwners_row (fun _ h => by cases h) (by kernel_rfl) (fun _ h => by cases h) topOwners_row_tie rfl ⟨rfl, rfl⟩ (by kernel_rfl) rfl
    (fun f fn hf hfn => by
      obtain rfl : f = 3 := Option.some.inj ((show Tryz.prog.funcNamed "beaconmere/meretop.TopOwners" = some 3 by kernel_rfl).symm.trans hf) |>.symm
      obtain rfl : fn = Tryz.f3 := (Option.some.inj (Tryz.func3.symm.trans hfn)).symm
      refine ⟨by kernel_rfl, fun j t ht => ?_⟩
      have hall : Tryz.f3.params.toList.all (fun t => !Tryz.prog.wantsStandIn t) = true := by kernel_rfl
      have hm : t ∈ Tryz.f3.params.toList := by
        obtain ⟨hj, hje⟩ := Array.getElem?_eq_some_iff.1 ht
        rw [← hje]
        exact Array.mem_toList_iff.2 (Array.getElem_mem hj)
      have := List.all_eq_true.1 hall t hm
      exact (show Tryz.prog.wantsStandIn t = false by simpa using this))
    (by kernel_rfl)

end Go.Proofs.YtmgiecoeeidgoaaGreatDoor
