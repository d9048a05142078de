/-
  PROVED HERE: merelaw3.LogKeeps returns true: what is safe is kept. CONDITIONS: the library's variables as the program's text lays them (tied by the card).
-/
import Derived.Test.YtljkclebcoanaaaGreatDoorKeepB
import Derived.Test.YtljkclebcoanaaaGreatDoorKeepOne
namespace Go.Proofs.YtljkclebcoanaaaGreatDoor
open Go.RowKit
open Go.ChangeShapes Go.WideShapes Go.ChangeAt

theorem LogX.mono {base base' l : Nat} {w : World} {G : LG} (h : LogX base w l G) (hb : base' ≤ base) : LogX base' w l G := by
  obtain ⟨h0, s, vs, h1⟩ := h
  exact ⟨h0, s, vs, h1.blk, h1.st.mono hb, h1.stp, h1.ne, Nat.le_trans hb h1.base⟩
/-- the first store and the first mark, just laid -/
theorem KD.start {base : Nat} {w : World} (hb : base ≤ w.heap.size) : KD base (((w.alloc (.cells #[.slice none 0 0] 43)).alloc (.cells #[.pointer (some ⟨w.heap.size, 0, none⟩)] 40)).alloc (.cells #[.int .i64 0] 3)) (.slice (some ⟨w.heap.size + 1, 0, none⟩) 1 1) (.slice (some ⟨w.heap.size + 1 + 1, 0, none⟩) 1 1) [w.heap.size] [] := by
  have z1 : (w.alloc (.cells #[.slice none 0 0] 43)).heap.size = w.heap.size + 1 := World.size_alloc _ _
  have z2 : ((w.alloc (.cells #[.slice none 0 0] 43)).alloc (.cells #[.pointer (some ⟨w.heap.size, 0, none⟩)] 40)).heap.size = w.heap.size + 1 + 1 := by rw [World.size_alloc, z1]
  refine ⟨?_, ?_, fun i hi => ?_, rfl⟩
  · have h := Ow.one cellP w.heap.size _ rfl (w.alloc (.cells #[.slice none 0 0] 43)) 40
    rw [z1] at h
    exact (h.mono (by omega)).alloc _
  · have h := Ow.one cellI 0 _ rfl ((w.alloc (.cells #[.slice none 0 0] 43)).alloc (.cells #[.pointer (some ⟨w.heap.size, 0, none⟩)] 40)) 3
    rw [z2] at h
    exact h.mono (by omega)
  · obtain rfl : i = 0 := by have : i ≤ 0 := hi; omega
    exact ⟨.slice none 0 0, ((Blk.new w 43 _).alloc _).alloc _, Ow.nil _ _ _ _ _, (fun h => by cases h), hb, (fun y hy => by cases hy), Nat.zero_le _⟩
theorem below_three (w : World) (a b c : Obj) : Below w.heap.size w (((w.alloc a).alloc b).alloc c) :=
  (((Below.refl _ _).alloc (Nat.le_refl _) a).alloc (by rw [World.size_alloc]; omega) b).alloc (by rw [World.size_alloc, World.size_alloc]; omega) c

set_option maxHeartbeats 16000000 in
set_option maxRecDepth 1000000 in
theorem logKeeps_any (ks : SlV Int) (tx : SlV ByteArray) (dl sy fl kp : SlV Int) (w : World) (hks : IntsAt w ks) (htx : StrsAt w tx) (hdl : IntsAt w dl) (hsy : IntsAt w sy) (hfl : IntsAt w fl) (hfr : ∀ x ∈ fl.xs, -9223372036854775808 ≤ x ∧ x ≤ 9223372036854775807) (hkp : IntsAt w kp) (hkr : ∀ x ∈ kp.xs, -9223372036854775808 ≤ x ∧ x ≤ 9223372036854775807) (hT : Tv w) :
    Calls Tryz.prog 4 #[.slice ks.A ks.xs.length ks.c, .slice tx.A tx.xs.length tx.c, .slice dl.A dl.xs.length dl.c, .slice sy.A sy.xs.length sy.c, .slice fl.A fl.xs.length fl.c, .slice kp.A kp.xs.length kp.c] w fun e w' => e = .returned (.bool true) ∧ Below w.heap.size w w' := by
  have hkl := hks.len
  have hfll := hfl.len
  unfold maxLen at hkl hfll
  have HT := hid hT.base
  have Hks := hid hks
  have Htx := hid htx
  have Hdl := hid hdl
  have Hsy := hid hsy
  have Hfl := hid hfl
  have Hfr := hid hfr
  have Hkp := hid hkp
  have Hkr := hid hkr
  clear hT hks htx hdl hsy hfl hfr hkp hkr
  go_enter Tryz.func4, Tryz.ntmps4
  go_wp2_with fail
  refine (xnew w).mono ?_
  rintro e w1 ⟨l1, rfl, hX1, hb1⟩
  have Hb1 := hid hb1
  have HP1 := hid (xput hX1 (HT.out.step hb1) 3 ⟨#[120]⟩ (by decide))
  rw [one_put, errV_zero] at HP1
  simp only at HP1
  clear hX1 hb1
  go_wp2_with fail
  refine HP1.out.mono ?_
  rintro e w2 ⟨rfl, hX2, hb2⟩
  have Hb2 := hid (Hb1.out.trans hb2)
  have HS2 := hid (xsync hX2)
  rw [one_sync, errV_zero] at HS2
  simp only at HS2
  clear hX2 hb2 HP1 Hb1
  go_wp2_with fail
  refine HS2.out.mono ?_
  rintro e w3 ⟨rfl, hX3, hb3⟩
  have Hb3 := hid (Hb2.out.trans hb3)
  have HP3 := hid (xput hX3 (HT.out.step Hb3.out) 3 ⟨#[121]⟩ (by decide))
  rw [one_put2, errV_zero] at HP3
  simp only at HP3
  clear hX3 hb3 HS2 Hb2
  go_wp2_with fail
  refine HP3.out.mono ?_
  rintro e w4 ⟨rfl, hX4, hb4⟩
  have Hb4 := hid (Hb3.out.trans hb4)
  have HC4 := hid (xcrash hX4 (HT.out.step Hb4.out) 0 (by decide))
  clear hX4 hb4 HP3 Hb3
  go_wp2_with fail
  refine HC4.out.mono ?_
  rintro e w5 ⟨⟨v5, rfl⟩, hX5, hb5⟩
  have HX5 := hid (show LogX w.heap.size w5 l1 oneD from hX5)
  have Hb5 := hid (Hb4.out.trans hb5)
  have HR5 := hid (xread HX5.out 3)
  rw [one_read, errV_zero] at HR5
  simp only [E.val] at HR5
  clear hX5 hb5 HC4 Hb4
  go_wp2_with fail
  refine HR5.out.mono ?_
  rintro e w6 ⟨rfl, hb6⟩
  have Hb6 := hid (Below.step Hb5.out hb6 Hb5.out.size)
  have HX6 := hid (HX5.out.belowS hb6)
  clear hb6 HR5 HX5 Hb5
  go_upto_region 7 with fail
  obtain ⟨wz, hwz⟩ : ∃ wz : World, wz = w6.alloc (Obj.cells #[Value.int IntKind.i64 3, Value.int IntKind.i64 1, Value.int IntKind.i64 1, Value.bool false, Value.string ⟨#[120]⟩] 34) := ⟨_, rfl⟩
  rw [← hwz]
  have hBz : Blk wz w6.heap.size 34 #[Value.int IntKind.i64 3, Value.int IntKind.i64 1, Value.int IntKind.i64 1, Value.bool false, Value.string ⟨#[120]⟩] := by rw [hwz]; exact Blk.new _ _ _
  have hbz : Below w6.heap.size w6 wz := by rw [hwz]; exact (Below.refl _ _).alloc (Nat.le_refl _) _
  have c1 : wz.cell? ⟨w6.heap.size, 1, none⟩ = some (.int .i64 1) := hBz.cell 1
  have c4 : wz.cell? ⟨w6.heap.size, 4, none⟩ = some (.string ⟨#[120]⟩) := hBz.cell 4
  have hlz := hBz.lt
  have Hbz := hid (Below.step Hb6.out hbz Hb6.out.size)
  have HXz := hid (HX6.out.belowS hbz)
  have HQz := hid (xseq HXz.out)
  have HBz := hid (xbytes HXz.out)
  have HZz := hid (xsafe HXz.out)
  rw [one_D] at HQz
  rw [one_len] at HBz
  simp only [List.length_cons, List.length_nil] at HQz
  generalize oneD.safe = ns at *
  clear hwz hBz hbz HXz HX6 Hb6
  go_wp2_with fail
  refine HQz.out.mono ?_
  rintro e wy ⟨rfl, rfl⟩
  go_wp2_with fail
  refine HBz.out.mono ?_
  rintro e wy ⟨rfl, rfl⟩
  go_wp2_with fail
  refine HZz.out.mono ?_
  rintro e wy ⟨rfl, rfl⟩
  clear HQz HBz HZz c1 c4 hlz
  go_wp2_with fail
  refine (xnew wz).mono ?_
  rintro e w7 ⟨l, rfl, hX7, hb7⟩
  have Hb7 := hid (Below.step Hbz.out hb7 Hbz.out.size)
  have HX7 := hid (hX7.mono Hbz.out.size)
  have HK7 := hid (KD.start (base := w.heap.size) (w := w7) Hb7.out.size)
  clear hX7 hb7 Hbz
  go_upto_block 0 with fail
  have HX8 := hid (HX7.out.belowS (below_three w7 (.cells #[.slice none 0 0] 43) (.cells #[.pointer (some ⟨w7.heap.size, 0, none⟩)] 40) (.cells #[.int .i64 0] 3)))
  have Hb8 := hid (Below.step Hb7.out (below_three w7 (.cells #[.slice none 0 0] 43) (.cells #[.pointer (some ⟨w7.heap.size, 0, none⟩)] 40) (.cells #[.int .i64 0] 3)) Hb7.out.size)
  go_wp2_with fail
  go_loopw [22, 23, 24, 25] (fun vd vm a r wr => ∃ (G : LG) (ps : List Nat) (n i : Nat), i ≤ 4 ∧ a = .int .i64 n ∧ r = .int .i64 i ∧ n ≤ ks.xs.length ∧ LogX w.heap.size wr l G ∧ KD w.heap.size wr vd vm ps G.D ∧ Below w.heap.size w wr) (fun _ _ _ r _ => 4 - (intOf r).toNat)
  case atStart => exact ⟨LG.new, _, 0, 0, by omega, rfl, rfl, Nat.zero_le _, HX8.out, HK7.out, Hb8.out⟩
  case round =>
    clear HX8 HK7 Hb8 HX7 Hb7
    obtain ⟨G, ps, n, i, hi, rfl, rfl, hn, hX, hK, hb⟩ := hrel
    obtain ⟨wq, rfl⟩ : ∃ wq : World, wq = wr := ⟨_, rfl⟩
    have HX := hid hX
    have HK := hid hK
    have Hb := hid hb
    clear hX hK hb
    by_cases h1 : i ≤ fl.xs.length
    · have h1' : (i : Int) ≤ (fl.xs.length : Int) := by omega
      by_cases h2 : i < 4
      · have h2' : (i : Int) < 4 := by omega
        go_upto_if 119 with fail
        go_cut [22, 23] from 116 to 125 (fun vd vm wx => ∃ G1 : LG, LogX w.heap.size wx l G1 ∧ KD w.heap.size wx vd vm ps G1.D ∧ Below w.heap.size w wx)
        case first =>
          as_aux_lemma =>
          by_cases h3 : i < fl.xs.length
          · have h3' : (i : Int) < (fl.xs.length : Int) := by omega
            obtain ⟨b, off, hA, hbb, hc⟩ := intsAt_cell Hfl.out Hb.out h3
            have hx := Hfr.out _ (List.getElem_mem h3)
            rw [← getD_get 0 h3] at hx
            generalize fl.xs.getD i 0 = x at *
            have HF := hid (kfail HX.out x hx.2)
            rw [hA]
            have HA := hid hA
            clear hA hx
            go_wp2_with fail
            refine HF.out.mono ?_
            rintro e w2 ⟨⟨vv, rfl⟩, hX2, hb2, hF2⟩
            have Hr := hid (And.intro hX2 (And.intro (HK.out.log hF2) (Hb.out.trans hb2)))
            clear hX2 hb2 hF2 HF
            go_wp2_with fail
            rw [← HA.out]
            go_meet
            exact ⟨G.fail x, Hr.out.1, Hr.out.2.1, Hr.out.2.2⟩
          · have h3' : ¬ (i : Int) < (fl.xs.length : Int) := by omega
            go_wp2_with fail
            go_meet
            exact ⟨G, HX.out, HK.out, Hb.out⟩
        case rest =>
        obtain ⟨G1, hX1, hK1, hb1⟩ := hcut
        obtain ⟨w8, rfl⟩ : ∃ w8 : World, w8 = wc := ⟨_, rfl⟩
        have HX1 := hid hX1
        have HK1 := hid hK1
        have Hb1 := hid hb1
        clear hX1 hK1 hb1 HX HK Hb
        go_upto_block 2 with fail
        go_cut [22, 23, 24] from 126 to 269 (fun vd vm a wx => ∃ (G2 : LG) (ps2 : List Nat) (n2 : Nat), a = .int .i64 n2 ∧ n2 ≤ ks.xs.length ∧ LogX w.heap.size wx l G2 ∧ KD w.heap.size wx vd vm ps2 G2.D ∧ Below w.heap.size w wx)
        case first =>
          as_aux_lemma =>
          go_wp2_with fail
          go_loopw [22, 23, 24, 26] (fun vd vm a k wr => ∃ (G : LG) (ps : List Nat) (n j : Nat), j ≤ 12 ∧ a = .int .i64 n ∧ k = .int .i64 j ∧ n ≤ ks.xs.length ∧ LogX w.heap.size wr l G ∧ KD w.heap.size wr vd vm ps G.D ∧ Below w.heap.size w wr) (fun _ _ _ k _ => 12 - (intOf k).toNat)
          case atStart => exact ⟨G1, ps, n, 0, by omega, rfl, rfl, hn, HX1.out, HK1.out, Hb1.out⟩
          case round =>
            clear HX1 HK1 Hb1
            obtain ⟨G2, ps2, n2, j, hj, rfl, rfl, hn2, hX, hK, hb⟩ := hrel
            obtain ⟨w9, rfl⟩ : ∃ w9 : World, w9 = wr := ⟨_, rfl⟩
            have HX := hid hX
            have HK := hid hK
            have Hb := hid hb
            clear hX hK hb
            by_cases h4 : j < 12
            · have h4' : (j : Int) < 12 := by omega
              by_cases h5 : n2 < ks.xs.length
              · have h5' : (n2 : Int) < (ks.xs.length : Int) := by omega
                go_upto_block 3 with fail
                refine ka_all w ks dl sy tx Hks.out Hdl.out Hsy.out Htx.out HT.out w9 Hb.out l n2 G2 _ _ ps2 HX.out HK.out h5 _ _ _ _ _ _ _ _ _ _ _ _ _ _ _ _ _ _ _ _ _ _ _ _ _ _ _ _ _ _ _ _ _ _ _ _ _ _ _ _ _ _ _ _ _ _ _ _ _ _ _ _ _ _ _ _ _ _ _ _ _ _ _ _ _ _ _ _ _ _ _ _ _ _ _ _ _ _ _ _ _ _ _ _ _ _ _ _ _ _ _ _ _ _ _ _ _ _ _ _ _ _ _ _ _ _ _ _ _ _ _ _ _ _ _ _ _ _ _ _ _ _ _ _ _ _ _ _ _ _ _ _ _ _ _ _ _ _ _ _ _ _ _ _ _ _ _ _ _ _ _ _ _ _ _ _ _ _ _ _ _ _ _ _ _ _ _ _ _ _ _ _ _ _ _ _ _ _ _ _ _ _ _ _ _ _ _ _ _ _ _ _ _ _ _ _ _ _ _ _ _ _ _ _ _ _ _ _ _ _ _ _ _ _ _ _ _ _ _ _ _ _ _ _ _ _ _ _ _ _ _ _ _ _ _ _ _ _ _ _ _ _ _ _ _ _ _ _ _ _ _ _ _ _ _ _ _ _ _ _ _ _ _ _ _ _ _ _ _ _ _ _ _ _ _ _ _ _ _ _ _ _ _ _ _ _ _ _ _ _ _ _ _ _ _ _ _ _ _ _ _ _ _ _ _ _ _ _ _ _ _ _ _ _ _ _ _ _ _ _ _ _ _ _ _ _ _ _ _ _ _ _ _ _ _ _ _ _ _ _ _ ?_
                intro G' vd' vm' ps' z wx hz hX' hK' hb'
                intros
                have Hr := hid (And.intro hX' (And.intro hK' hb'))
                have Hz := hid hz
                clear hX' hK' hb' hz
                go_wp2_with fail
                go_roundw
                case rel => exact ⟨G', ps', n2 + 1, j + 1, by omega, by rw [Hz.out], by go_num, by omega, Hr.out.1, Hr.out.2.1, Hr.out.2.2⟩
                case measure => simp [intOf]; omega
              · have h5' : ¬ (n2 : Int) < (ks.xs.length : Int) := by omega
                go_wp2_with fail
                go_meet
                exact ⟨G2, ps2, n2, rfl, hn2, HX.out, HK.out, Hb.out⟩
            · have h4' : ¬ (j : Int) < 12 := by omega
              go_wp2_with fail
              go_meet
              exact ⟨G2, ps2, n2, rfl, hn2, HX.out, HK.out, Hb.out⟩
        case rest =>
        obtain ⟨G2, ps2, n2, rfl, hn2, hX2, hK2, hb2⟩ := hcut
        obtain ⟨w9, rfl⟩ : ∃ w9 : World, w9 = wc := ⟨_, rfl⟩
        have HX2 := hid hX2
        have HK2 := hid hK2
        have Hb2 := hid hb2
        clear hX2 hK2 hb2 HX1 HK1 Hb1
        apply_assumption
        refine kb_all w kp Hkp.out Hkr.out HT.out w9 Hb2.out l i G2 _ _ ps2 HX2.out HK2.out (by omega) _ _ _ _ _ _ _ _ _ _ _ _ _ _ _ _ _ _ _ _ _ _ _ _ _ _ _ _ _ _ _ _ _ _ _ _ _ _ _ _ _ _ _ _ _ _ _ _ _ _ _ _ _ _ _ _ _ _ _ _ _ _ _ _ _ _ _ _ _ _ _ _ _ _ _ _ _ _ _ _ _ _ _ _ _ _ _ _ _ _ _ _ _ _ _ _ _ _ _ _ _ _ _ _ _ _ _ _ _ _ _ _ _ _ _ _ _ _ _ _ _ _ _ _ _ _ _ _ _ _ _ _ _ _ _ _ _ _ _ _ _ _ _ _ _ _ _ _ _ _ _ _ _ _ _ _ _ _ _ _ _ _ _ _ _ _ _ _ _ _ _ _ _ _ _ _ _ _ _ _ _ _ _ _ _ _ _ _ _ _ _ _ _ _ _ _ _ _ _ _ _ _ _ _ _ _ _ _ _ _ _ _ _ _ _ _ _ _ _ _ _ _ _ _ _ _ _ _ _ _ _ _ _ _ _ _ _ _ _ _ _ _ _ _ _ _ _ _ _ _ _ _ _ _ _ _ _ _ _ _ _ _ _ _ _ _ _ _ _ _ _ _ _ _ _ _ _ _ _ _ _ _ _ _ _ _ _ _ _ _ _ _ _ _ _ _ _ _ _ _ _ _ _ _ _ _ _ _ _ _ _ _ _ _ _ _ _ _ _ _ _ _ _ _ _ _ _ _ _ _ _ _ _ _ _ _ _ _ _ _ _ _ _ _ ?_
        intro G' vd' vm' ps' wx hX' hK' hb'
        intros
        have Hr := hid (And.intro hX' (And.intro hK' hb'))
        clear hX' hK' hb'
        go_wp2_with fail
        go_roundw
        case rel => exact ⟨G', ps', n2, i + 1, by omega, rfl, by go_num, hn2, Hr.out.1, Hr.out.2.1, Hr.out.2.2⟩
        case measure => simp [intOf]; omega
      · have h2' : ¬ (i : Int) < 4 := by omega
        go_wp2_with fail
        go_ret
        exact ⟨rfl, Hb.out⟩
    · have h1' : ¬ (i : Int) ≤ (fl.xs.length : Int) := by omega
      go_wp2_with fail
      go_ret
      exact ⟨rfl, Hb.out⟩

theorem trodAll_six {H : Type} {enc : TypeId × Value → H} {P : Program} {w : World} {base : Nat} {sp : Nat → Bool} {held : Bool} {t t' t'' t3 t4 t5 : TypeId} {args : Array Value} {ds : List (DataW H)} {ps : List MemPlace} (h : DataW.TrodAll enc P w base sp held [t, t', t'', t3, t4, t5] args.toList ds ps) :
    ∃ v v' v'' v3 v4 v5 d d' d'' d3 d4 d5 p p' p'' p3 p4 p5, args = #[v, v', v'', v3, v4, v5] ∧ ds = [d, d', d'', d3, d4, d5] ∧ ps = p ++ (p' ++ (p'' ++ (p3 ++ (p4 ++ (p5 ++ []))))) ∧ DataW.Trod enc P w base sp held t v d p ∧ DataW.Trod enc P w base sp held t' v' d' p' ∧ DataW.Trod enc P w base sp held t'' v'' d'' p'' ∧ DataW.Trod enc P w base sp held t3 v3 d3 p3 ∧ DataW.Trod enc P w base sp held t4 v4 d4 p4 ∧ DataW.Trod enc P w base sp held t5 v5 d5 p5 := by
  obtain ⟨v, vs, d, ds', p, q, e1, rfl, rfl, h1, h⟩ := trodAll_cons h
  obtain ⟨v', vs', d', ds'', p', q', rfl, rfl, rfl, h2, h⟩ := trodAll_cons h
  obtain ⟨v'', vs'', d'', ds3, p'', q'', rfl, rfl, rfl, h3, h⟩ := trodAll_cons h
  obtain ⟨v3, vs3, d3, ds4, p3, q3, rfl, rfl, rfl, h4, h⟩ := trodAll_cons h
  obtain ⟨v4, vs4, d4, ds5, p4, q4, rfl, rfl, rfl, h5, h⟩ := trodAll_cons h
  obtain ⟨v5, vs5, d5, ds6, p5, q5, rfl, rfl, rfl, h6, h⟩ := trodAll_cons h
  obtain ⟨rfl, rfl, rfl⟩ := trodAll_nil h
  refine ⟨v, v', v'', v3, v4, v5, d, d', d'', d3, d4, d5, p, p', p'', p3, p4, p5, ?_, rfl, rfl, h1, h2, h3, h4, h5, h6⟩
  exact Array.toList_inj.1 (by simpa using e1)

set_option maxRecDepth 100000 in
theorem logKeeps_walk : LawWalk Tryz.prog 4 Tryz.f4 Tv := by
  intro W base args H enc ds p hval hA hgl
  rw [Tryz.params4] at hA hval
  obtain ⟨v0, v1, v2, v3, v4, v5, d0, d1, d2, d3, d4, d5, p0, p1, p2, p3, p4, p5, rfl, rfl, rfl, h0, h1, h2, h3, h4, h5⟩ := trodAll_six hA
  obtain ⟨s0, rfl, hs0⟩ := arg_slice Tryz.underlying38 (Codec.int Tryz.underlying3) (pos_of_eq Tryz.cellsInt (by decide)) (hval 0 38 v0 rfl rfl) h0
  obtain ⟨s1, rfl, hs1⟩ := arg_slice Tryz.underlying39 (Codec.str Tryz.underlying9) (pos_of_eq Tryz.cellsStr (by decide)) (hval 1 39 v1 rfl rfl) h1
  obtain ⟨s2, rfl, hs2⟩ := arg_slice Tryz.underlying38 (Codec.int Tryz.underlying3) (pos_of_eq Tryz.cellsInt (by decide)) (hval 2 38 v2 rfl rfl) h2
  obtain ⟨s3, rfl, hs3⟩ := arg_slice Tryz.underlying38 (Codec.int Tryz.underlying3) (pos_of_eq Tryz.cellsInt (by decide)) (hval 3 38 v3 rfl rfl) h3
  obtain ⟨s4, rfl, hs4⟩ := arg_slice Tryz.underlying38 (Codec.int Tryz.underlying3) (pos_of_eq Tryz.cellsInt (by decide)) (hval 4 38 v4 rfl rfl) h4
  obtain ⟨s5, rfl, hs5⟩ := arg_slice Tryz.underlying38 (Codec.int Tryz.underlying3) (pos_of_eq Tryz.cellsInt (by decide)) (hval 5 38 v5 rfl rfl) h5
  exact logKeeps_any s0 s1 s2 s3 s4 s5 W (intsAt_of hs0) (strsAt_of hs1) (intsAt_of hs2) (intsAt_of hs3) (intsAt_of hs4) hs4.2.1 (intsAt_of hs5) hs5.2.1 hgl

set_option maxRecDepth 100000 in
theorem logKeeps_lifted (os : Os) (started : os.Started) (H : Type) (enc : TypeId × Value → H) :
    ReturnsInHanded {} Tryz.checked os 4 .any (fun w args => (Rows.logKeepsSpec.pre enc Tryz.checked.prog Tryz.f4 [] false w args ∧ laidMetH Tryz.prog laid8 w) ∧ sizedMet enc Tryz.checked.prog Tryz.f4 (OpenSpec.ofChange Rows.logKeepsSpec) false w args) (Rows.logKeepsSpec.post enc Tryz.checked.prog Tryz.f4 false true false false) :=
  laid_lifted (C := Tryz.checked) laid8 (fun _ h => tb_of_laid8 h) [] Tryz.own started (by kernel_rfl) Tryz.func4 Tryz.laidOut (by kernel_rfl) rfl Tryz.underlying4 rfl (fun ds h => by match ds, h with | [_, _, _, _, _, _], _ => rfl)
    (ChangeSpec.witness_shaped (enc := enc) (C := Tryz.checked) (os := os) (X := fun w _ => laidMetH Tryz.prog laid8 w) false (World.doorLaid Tryz.prog 4000 os) #[.slice none 0 0, .slice none 0 0, .slice none 0 0, .slice none 0 0, .slice none 0 0, .slice none 0 0] 8 rfl (World.shaped_of_RefB (by kernel_rfl) (by kernel_rfl)) (by kernel_rfl) (by kernel_rfl) (by kernel_rfl) (door_met8 os _)) logKeeps_walk

theorem logKeeps_row : Rows.LogKeepsSaid :=
  OpenClaim.holds_of_wide 4 Tryz.f4 rfl rfl rfl rfl rfl rfl rfl ⟨rfl, rfl, rfl, rfl, rfl⟩ rfl rfl rfl rfl rfl (by kernel_rfl) Tryz.func4 (by kernel_rfl)
    (of_decide_eq_true (by kernel_rfl)) (by unfold Func.isWrapper; rw [if_neg (of_decide_eq_false (by kernel_rfl))]; exact ⟨rfl, rfl⟩)
    (fun os started H enc _ => logKeeps_lifted os started H enc)

theorem logKeeps_holds : Rows.LogKeepsCardSaid :=
  Claim7.holds_tied_plain_at .later [] [.data, .data, .data, .handle, .sentinel, .sentinel, .listed, .data] true _ true
    logKeeps_row (fun _ h => by cases h) (by kernel_rfl) (fun _ h => by cases h) logKeeps_row_tie rfl ⟨rfl, rfl⟩ (by kernel_rfl) rfl
    (fun f fn hf hfn => by
      obtain rfl : f = 4 := Option.some.inj ((show Tryz.prog.funcNamed "beaconmere/merelaw3.LogKeeps" = some 4 by kernel_rfl).symm.trans hf) |>.symm
      obtain rfl : fn = Tryz.f4 := (Option.some.inj (Tryz.func4.symm.trans hfn)).symm
      refine ⟨by kernel_rfl, fun j t ht => ?_⟩
      have hall : Tryz.f4.params.toList.all (fun t => !Tryz.prog.wantsStandIn t) = true := by kernel_rfl
      have hm : t ∈ Tryz.f4.params.toList := by
        obtain ⟨hj, hje⟩ := Array.getElem?_eq_some_iff.1 ht
        rw [← hje]
        exact Array.mem_toList_iff.2 (Array.getElem_mem hj)
      have := List.all_eq_true.1 hall t hm
      exact (show Tryz.prog.wantsStandIn t = false by simpa using this))
    (by kernel_rfl)

end Go.Proofs.YtljkclebcoanaaaGreatDoor
