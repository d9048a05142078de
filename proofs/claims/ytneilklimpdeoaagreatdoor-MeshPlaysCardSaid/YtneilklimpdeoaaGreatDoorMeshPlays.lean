/-
  PROVED HERE: merelaw2.MeshPlays returns true: anything that nodes put, delete, get, and swap: the numbers, what is told, and all caches are the reference's. CONDITIONS: the library's variables as the program's text lays them (tied by the card).
-/
import Derived.Test.YtneilklimpdeoaaGreatDoorRMesh
import Derived.Test.YtneilklimpdeoaaGreatDoorMeshDel
import Derived.Test.YtneilklimpdeoaaGreatDoorMSeq
import Derived.Test.YtneilklimpdeoaaGreatDoorDoorT
import Derived.Deep.CutBlock
import Derived.Deep.DeepCutAuto
import Derived.Deep.RegionHeld3
namespace Go.Proofs.YtneilklimpdeoaaGreatDoor
open Go.RowKit
open Go.ChangeShapes Go.WideShapes Go.ChangeAt

/-- a mesh of the program's and one of the reference's, alike and apart -/
structure PairW (base : Nat) (w : World) (m mk : Nat) (D : List E) (C : List (List E)) (A : Nat → Prop) : Prop where
  prog : MeshW base w m D C A
  ref : RMeshW base w mk D C A
  low : ∀ i, A i → i < w.heap.size
section
variable {base m mk : Nat} {w wd w6 w7 : World} {D D2 : List E} {C C2 : List (List E)} {A A2 : Nat → Prop}
theorem PairW.belowS (h : PairW base w m mk D C A) (hb : Below w.heap.size w wd) : PairW base wd m mk D C A := ⟨h.prog.belowS hb, h.ref.belowS hb, fun i hi => Nat.lt_of_lt_of_le (h.low i hi) hb.size⟩
/-- behind a call of the reference's -/
theorem PairW.step (h : PairW base w m mk D C A) (hb : Below w.heap.size w wd) (hR : RMeshW base w6 mk D2 C2 (AOr A wd w6)) (hF : Fr (RTouch base A) wd w6) : MeshW base w6 m D C (AOr (AOr A w wd) wd w6) ∧ RMeshW base w6 mk D2 C2 (AOr (AOr A w wd) wd w6) ∧ ∀ i, AOr (AOr A w wd) wd w6 i → i < w6.heap.size := by
  have hz := hb.size
  have hz6 := hF.size
  refine ⟨MeshW.stepA (A := AOr A w wd) (h.prog.avoid hb) (hF.mono (fun i _ hi => .inl hi.1)), hR.more (fun i hi => hi.imp (fun h => .inl h) (fun h => h)), fun i hi => ?_⟩
  rcases hi with (hi | hi) | hi
  · have := h.low i hi; omega
  · omega
  · omega
/-- behind the program's -/
theorem PairW.both (hR : RMeshW base w6 mk D2 C2 A2) (hA : ∀ i, A2 i → i < w6.heap.size) (hM : MeshW base w7 m D2 C2 A2) (hF : Fr (MTouch base A2) w6 w7) : PairW base w7 m mk D2 C2 A2 :=
  ⟨hM, hR.fr hF (fun i hi => hi.2), fun i hi => Nat.lt_of_lt_of_le (hA i hi) hF.size⟩
theorem RMeshW.c0 (h : RMeshW base w m D C A) : ∃ b B c, w.cell? ⟨m, 0, none⟩ = some (.pointer (some ⟨b, 0, none⟩)) ∧ w.cell? ⟨b, 0, none⟩ = some (.slice B D.length c) ∧ b < w.heap.size := by
  obtain ⟨b, g, v, q, h1, h2, h3⟩ := h
  obtain ⟨r, hv, hrx, -⟩ := h1.st.form
  have := h1.st.blk.cell 0
  exact ⟨b, r.A, r.c, h1.c0, by rw [this, ← hrx, ← hv]; rfl, h1.st.lt⟩
theorem RMeshW.c1 (h : RMeshW base w m D C A) {k : Nat} (hk : k < C.length) : ∃ (g : Nat) (y : SlV E), w.cell? ⟨m, 1, none⟩ = some (.slice (some ⟨g, 0, none⟩) C.length C.length) ∧ w.cell? ⟨g, k, none⟩ = some (.slice y.A y.xs.length y.c) ∧ g < w.heap.size ∧ y.xs = C.getD k [] ∧ EsAt w y := by
  obtain ⟨b, g, v, q, h1, rfl, h3⟩ := h
  have hl : (q.map SlV.xs).length = q.length := List.length_map ..
  rw [hl] at hk ⊢
  exact ⟨g, q[k], h1.c1, h1.at hk, h1.row.lt, by rw [map_getD, getD_get SlV.nil hk], (h1.own _ (List.getElem_mem hk)).es⟩
end
/-- the reference's mesh at first -/
theorem RMeshW.first {base : Nat} {w W : World} {N : Nat} (h6 : N ≤ 6) (hB : base ≤ w.heap.size) (hW : W = ((w.alloc (.cells #[.slice none 0 0] 34)).alloc (.cells ((noneC N).map SlV.val).toArray 32)).alloc (.cells #[.pointer (some ⟨w.heap.size, 0, none⟩), .slice (some ⟨w.heap.size + 1, 0, none⟩) N N] 37)) :
    RMeshW base W (w.heap.size + 2) [] (List.replicate N []) (fun i => w.heap.size ≤ i ∧ i < W.heap.size) := by
  have hz : W.heap.size = w.heap.size + 3 := by rw [hW]; simp
  have hl := noneC_len N
  have hnil : foot (.slice none 0 0) = none := rfl
  have hq : ∀ c ∈ noneC N, c = ⟨none, 0, []⟩ := fun c hc => (List.mem_replicate.1 hc).2
  have hB0 : Blk W w.heap.size 34 #[.slice none 0 0] := by rw [hW]; exact ((Blk.new w _ _).alloc _).alloc _
  have hB1 : Blk W (w.heap.size + 1) 32 ((noneC N).map SlV.val).toArray := by rw [hW]; exact (Blk.new_at (by simp)).alloc _
  have hB2 : Blk W (w.heap.size + 2) 37 #[.pointer (some ⟨w.heap.size, 0, none⟩), .slice (some ⟨w.heap.size + 1, 0, none⟩) N N] := by rw [hW]; exact Blk.new_at (by simp)
  refine ⟨w.heap.size, w.heap.size + 1, .slice none 0 0, noneC N, ⟨by rw [hl]; exact hB2, ⟨hB0, Ow.nil _ _ _ _ _, by rw [hnil]; simp, hB, (fun y hy => by cases hy), by simp⟩, hB1, fun c hc => by rw [hq c hc]; exact OwnC.none _ _, fun c hc i hi => by rw [hnil]; simp, fun c hc => by rw [hq c hc]; exact CacheD.nil _, Deeds.nil, by rw [hl]; exact h6, by omega, by omega⟩, by unfold noneC; rw [List.map_replicate], fun i hi => ?_⟩
  rcases hi with rfl | rfl | rfl | hi | ⟨c, hc, hi⟩
  · omega
  · omega
  · omega
  · rw [hnil] at hi; cases hi
  · rw [hq c hc] at hi; cases hi
theorem rmake (N : Nat) (h6 : N ≤ 6) (W : World) : (Instr.makeSlice 35 (.int .i64 (N : Int)) (.int .i64 (N : Int))).run Tryz.prog W = .ok (.slice (some ⟨W.heap.size, 0, none⟩) N N) (W.alloc (.cells ((noneC N).map SlV.val).toArray 32)) := by
  obtain ⟨i0, hi0, hz0, hzs, hzb⟩ := info_parts infoSE
  have := run_make (P := Tryz.prog) W 35 32 i0 (.slice none 0 0) Tryz.underlying35 hi0 hz0 .i64 .i64 (N : Int) (N : Int) (by omega) (by omega) (by rw [hzb]; omega) (by omega)
  rw [Int.toNat_natCast, hzs, Nat.mul_one] at this
  rw [← made_none h6]
  exact this
theorem five_waysM (x : Int) : (x = 0 ∨ x = 1) ∨ x = 2 ∨ (x = 3 ∨ x = 4) ∨ (¬ x = 0 ∧ ¬ x = 1 ∧ ¬ x = 2 ∧ ¬ x = 3 ∧ ¬ x = 4) := by
  by_cases h0 : x = 0
  · exact .inl (.inl h0)
  by_cases h1 : x = 1
  · exact .inl (.inr h1)
  by_cases h2 : x = 2
  · exact .inr (.inl h2)
  by_cases h3 : x = 3
  · exact .inr (.inr (.inl (.inl h3)))
  by_cases h4 : x = 4
  · exact .inr (.inr (.inl (.inr h4)))
  exact .inr (.inr (.inr ⟨h0, h1, h2, h3, h4⟩))
theorem mdo_len (C : List (List E)) (D : List E) (x : Int) (y : Int) (r : (Int × Int) × List E) : (if (mdoR C.length D x r).1.2 = 0 then learnC C x.toNat y (mdoR C.length D x r).2 else C).length = C.length := by
  split
  · unfold learnC; rw [List.length_set]
  · rfl
theorem mget_len (D : List E) (C : List (List E)) (x y z : Int) : (mgetR D C x y z).2.length = C.length := by
  unfold mgetR
  split
  · split
    · split
      · rfl
      · unfold learnC; rw [List.length_set]
    · unfold learnC; rw [List.length_set]
  · rfl
theorem mswap_len (C : List (List E)) (x y : Int) : (mswapR C x y).2.length = C.length := by
  unfold mswapR
  split
  · split
    · rfl
    · rw [List.length_set, List.length_set]
  · rfl
set_option maxHeartbeats 16000000 in
set_option maxRecDepth 100000 in
theorem meshPlays_any (n : Int) (st : SlV (SlV Int)) (tx : SlV ByteArray) (w : World) (hst : IntssAt w st) (htx : StrsAt w tx) (htb : Tb w) (hgl : Gl w) :
    Calls Tryz.prog 3 #[.int .i64 n, .slice st.A st.xs.length st.c, .slice tx.A tx.xs.length tx.c] w fun e w' => e = .returned (.bool true) ∧ Below w.heap.size w w' := by
  have hlen := hst.len
  have hlent := htx.len
  unfold maxLen at hlen hlent
  have HTb := hid (fun W (hW : Below w.heap.size w W) => htb.belowS hW)
  have HE := hid (fun (k : Int) W (hW : Below w.heap.size w W) => error_any k k W (hgl.belowS hW))
  simp only [beq_self_eq_true] at HE
  clear htb hgl
  by_cases hn : n < 1 ∨ 6 < n
  · have HB := hid (mnew_bad n w hn)
    have HE1 := hid (HE.out 1)
    rw [errV_ne (show (1 : Int) ≠ 0 by decide)] at HE1
    clear HE HTb
    rcases (show n < 1 ∨ (¬ n < 1 ∧ 6 < n) by omega) with h | ⟨h1, h⟩
    all_goals
      clear hn
      go_enter Tryz.func3, Tryz.ntmps3
      go_wp2_with fail
      refine HB.out.mono ?_
      rintro e w1 ⟨rfl, hb1⟩
      have Hb1 := hid hb1
      have HE2 := hid (HE1.out w1 hb1)
      clear hb1
      go_wp2_with fail
      refine HE2.out.mono ?_
      rintro e w2 ⟨rfl, hb2⟩
      have Hb2 := hid (Below.step Hb1.out hb2 Hb1.out.size)
      clear hb2
      go_wp2_with fail
      go_ret
      exact ⟨rfl, Hb2.out⟩
  obtain ⟨N, rfl⟩ := Int.eq_ofNat_of_zero_le (show 0 ≤ n by omega)
  have HNw := hid (mnew_ok N w (by omega) (by omega))
  have HE0 := hid (HE.out 0)
  rw [errV_zero] at HE0
  have hN1 : ¬ (N : Int) < 1 := by omega
  have hN6 : ¬ (6 : Int) < (N : Int) := by omega
  have h6 : N ≤ 6 := by omega
  clear hn
  go_enter Tryz.func3, Tryz.ntmps3
  go_wp2_with fail
  refine HNw.out.mono ?_
  rintro e w1 ⟨vm, rfl, hNr⟩
  obtain ⟨m, rfl, hM, hb1⟩ := hNr.meshW
  have Hb1 := hid hb1
  have hz1 := hb1.size
  have HM1 := hid hM
  have HE1 := hid (HE0.out w1 hb1)
  clear hM hb1 hNr HNw HE0
  go_wp2_with fail
  refine HE1.out.mono ?_
  rintro e w2 ⟨rfl, hb2⟩
  have HM2 := hid (HM1.out.belowS hb2)
  have Hb2 := hid (Below.step Hb1.out hb2 hz1)
  have hz2 := Hb2.out.size
  have hmk := rmake N h6
  clear hb2 HE1 HM1
  go_upto_region 9 with fail
  obtain ⟨w3, hw3⟩ : ∃ W : World, W = ((w2.alloc (.cells #[.slice none 0 0] 34)).alloc (.cells ((noneC N).map SlV.val).toArray 32)).alloc (.cells #[.pointer (some ⟨w2.heap.size, 0, none⟩), .slice (some ⟨w2.heap.size + 1, 0, none⟩) N N] 37) := ⟨_, rfl⟩
  rw [← hw3]
  have hRf := RMeshW.first h6 hz2 hw3
  have hb23 : Below w2.heap.size w2 w3 := by rw [hw3]; exact (((Below.refl _ _).alloc (Nat.le_refl _) _).alloc (by simp) _).alloc (by simp; omega) _
  have hP3 : PairW w.heap.size w3 m (w2.heap.size + 2) [] (List.replicate N []) (fun i => i < w.heap.size ∨ (w2.heap.size ≤ i ∧ i < w3.heap.size)) :=
    ⟨HM2.out.avoid hb23, hRf.more (fun i hi => .inr hi), fun i hi => by have := hb23.size; omega⟩
  have HP3 := hid hP3
  have Hb3 := hid (Below.step Hb2.out hb23 hz2)
  have hz3 := Hb3.out.size
  generalize w2.heap.size + 2 = mk at *
  clear hw3 hRf hb23 hP3 hmk HM2
  go_wp2_with fail
  go_loopw [12] (fun i wr => ∃ (k : Nat) (D : List E) (C : List (List E)) (A : Nat → Prop), k ≤ 60 ∧ i = .int .i64 k ∧ C.length = N ∧ PairW w.heap.size wr m mk D C A ∧ Below w.heap.size w wr) (fun i _ => 60 - (intOf i).toNat)
  case atStart => exact ⟨0, [], List.replicate N [], _, by omega, rfl, List.length_replicate, HP3.out, Hb3.out⟩
  case round =>
    obtain ⟨n, D, C, A, hn, rfl, hCl, hP, hbr⟩ := hrel
    clear HP3
    have HCl := hid hCl
    by_cases hcond : n < st.xs.length ∧ n < 60
    · obtain ⟨hn1, hn2⟩ := hcond
      obtain ⟨b, off, hA, hb, hcells⟩ := hst.row (by omega)
      have hcell := hcells n hn1
      have hin := hst.each n hn1
      rw [← hbr.cell (p := ⟨b, off + n, none⟩) hb] at hcell
      have HA := hid hA
      rw [hA]
      generalize hrw : st.xs[n] = rw_ at *
      clear hcells hA hrw hCl
      obtain ⟨wo, rfl⟩ : ∃ wo : World, wo = wr := ⟨_, rfl⟩
      have hzr := hbr.size
      have hVlt : w.heap.size ≤ wo.heap.size := hbr.size
      go_upto_block 2 with fail
      go_cut [] (fun wx => ∃ vs : List Int, vs.length = 4 ∧ Blk wx wo.heap.size 38 (ints vs) ∧ Fr (fun x => x = wo.heap.size) (wo.alloc (.cells (ints [0, 0, 0, 0]) 38)) wx)
      case first =>
        have hV0 : Blk (wo.alloc (.cells (ints [0, 0, 0, 0]) 38)) wo.heap.size 38 (ints [0, 0, 0, 0]) := Blk.new _ _ _
        go_wp2_with fail
        go_loopw [14] (fun j w2 => ∃ (m : Nat) (vs : List Int), m ≤ 4 ∧ m ≤ rw_.xs.length ∧ j = .int .i64 m ∧ vs.length = 4 ∧ Blk w2 wo.heap.size 38 (ints vs) ∧ Fr (fun x => x = wo.heap.size) (wo.alloc (.cells (ints [0, 0, 0, 0]) 38)) w2)
          (fun j _ => 4 - (intOf j).toNat)
        case atStart => exact ⟨0, [0, 0, 0, 0], by omega, by omega, rfl, rfl, hV0, Fr.refl _ _⟩
        case round =>
          obtain ⟨m, vs, hm3, hml, rfl, hvl, hVb, hVf⟩ := hrel
          have hcell2 := (hVf.cell (p := ⟨b, off + n, none⟩) (by simp; omega) (by simp; omega)).trans ((World.cell?_alloc_lt wo _ ⟨b, off + n, none⟩ (by simp; omega)).trans hcell)
          by_cases hm1 : m < rw_.xs.length
          · by_cases hm2 : m < 4
            · obtain ⟨b2, off2, hA2, hb2, hcells2⟩ := hin.row (by omega)
              have hx := hcells2 m hm1
              have hx2 := (hVf.cell (p := ⟨b2, off2 + m, none⟩) (by simp; omega) (by simp; omega)).trans ((World.cell?_alloc_lt wo _ ⟨b2, off2 + m, none⟩ (by simp; omega)).trans ((hbr.cell (p := ⟨b2, off2 + m, none⟩) hb2).trans hx))
              rw [hA2] at hcell2
              generalize rw_.xs.getD m 0 = x at *
              have hv : _ = some (Value.int .i64 (vs.getD m 0)) := (hVb.cell m).trans (ints_get vs m (by omega))
              have hvf := hVb.frozen m
              have hVb' := hVb.put m (.int .i64 x)
              rw [ints_set] at hVb'
              have hVf' := Fr.setCell (S := fun x => x = wo.heap.size) hVf (p := ⟨wo.heap.size, m, none⟩) (.inl rfl) (.int .i64 x)
              have HV := hid (And.intro hVb' hVf')
              clear hcells2 hA2 hx hVb' hVf'
              go_wp2_with fail
              go_roundw
              case rel => exact ⟨m + 1, _, by omega, by omega, by go_num, by simpa using hvl, HV.out.1, HV.out.2⟩
              case measure => simp [intOf]; omega
            · go_wp2_with fail
              go_meet
              exact ⟨vs, hvl, hVb, hVf⟩
          · go_wp2_with fail
            go_meet
            exact ⟨vs, hvl, hVb, hVf⟩
      case rest =>
        obtain ⟨vs, hvl, hVb, hVf⟩ := hcut
        obtain ⟨x0, x1, x2, x3, rfl⟩ : ∃ x0 x1 x2 x3, vs = [x0, x1, x2, x3] := by
          match vs, hvl with
          | [x0, x1, x2, x3], _ => exact ⟨x0, x1, x2, x3, rfl⟩
        obtain ⟨wd, rfl⟩ : ∃ wd : World, wd = wc := ⟨_, rfl⟩
        have cv0 : wd.cell? ⟨wo.heap.size, 0, none⟩ = some (.int .i64 x0) := hVb.cell 0
        have cv1 : wd.cell? ⟨wo.heap.size, 1, none⟩ = some (.int .i64 x1) := hVb.cell 1
        have cv2 : wd.cell? ⟨wo.heap.size, 2, none⟩ = some (.int .i64 x2) := hVb.cell 2
        have cv3 : wd.cell? ⟨wo.heap.size, 3, none⟩ = some (.int .i64 x3) := hVb.cell 3
        have HVb := hid hVb
        have hbo : Below wo.heap.size wo wd := ((Below.refl _ _).alloc (Nat.le_refl _) _).trans (hVf.below (by simp) (fun i hi e => by omega))
        have hzo := hbo.size
        have Hbd := hid (Below.step hbr hbo hzr)
        have Hbo := hid hbo
        have hlV := hVb.lt
        have HP := hid hP
        have hzd : w.heap.size ≤ wd.heap.size := Hbd.out.size
        clear hVf hcell hin hP hbr hbo hVb
        go_upto_if 96 with fail
        go_cut [15] (fun t wx => (∃ x : ByteArray, x.size ≤ maxLen ∧ t = .string x) ∧ wx = wd)
        case first =>
          by_cases hnt : n < tx.xs.length
          · obtain ⟨b2, off2, hA2, hb2, hc2⟩ := htx.row (by omega)
            have hx := (Hbd.out.cell (p := ⟨b2, off2 + n, none⟩) hb2).trans (hc2 n hnt)
            have hxg := htx.each _ (List.getElem_mem hnt)
            have Hxg := hid hxg
            generalize tx.xs[n] = x at *
            have HA2 := hid hA2
            rw [hA2]
            clear hA2 hc2 hxg
            go_wp2_with fail
            rw [← HA2.out]
            go_meet
            exact ⟨⟨x, Hxg.out, rfl⟩, rfl⟩
          · have hnt' : ¬ ((n : Int) < (tx.xs.length : Int)) := by omega
            go_wp2_with fail
            go_meet
            exact ⟨⟨ByteArray.mk #[], Nat.zero_le _, rfl⟩, rfl⟩
        case rest =>
        obtain ⟨⟨tt, htt, rfl⟩, hwc⟩ := hcut
        obtain rfl : wd = wc := hwc.symm
        have Htt := hid htt
        have HRd := hid (HP.out.ref.belowS Hbo.out)
        have HSt := hid (fun (W : World) (D2 : List E) (C2 : List (List E)) hR hF => PairW.step (w6 := W) (D2 := D2) (C2 := C2) HP.out Hbo.out hR hF)
        have HAv := hid (show ∀ i, A i → i < wo.heap.size from HP.out.low)
        clear htt
        go_upto_block 4 with fail
        go_cut [10] (fun t wx => t = .bool true ∧ ∃ (D2 : List E) (C2 : List (List E)) (A2 : Nat → Prop), C2.length = N ∧ PairW w.heap.size wx m mk D2 C2 A2 ∧ Below w.heap.size w wx)
        case first =>
          rcases (show (x0 = 0 ∨ x0 = 1) ∨ x0 = 2 ∨ (x0 = 3 ∨ x0 = 4) ∨ (¬ x0 = 0 ∧ ¬ x0 = 1 ∧ ¬ x0 = 2 ∧ ¬ x0 = 3 ∧ ¬ x0 = 4) from five_waysM x0) with h | h | h | h
          · as_aux_lemma =>
            have HRp := hid (rmputW x1 x2 tt Htt.out wd HRd.out hzd)
            have HPt := hid (fun W (A2 : Nat → Prop) h1 h2 h3 => mputW (A := A2) (m := m) (D := D) (C := C) (base := w.heap.size) x1 x2 tt Htt.out W h1 h2 h3)
            have hl6 := mdo_len C D x1 x2 (rput D x2 tt)
            have Hl6 := hid hl6
            clear hl6
            generalize mdoR C.length D x1 (rput D x2 tt) = R at *
            obtain ⟨⟨r1, r2⟩, D2⟩ := R
            simp only at HPt HRp Hl6
            generalize (if r2 = 0 then learnC C x1.toNat x2 D2 else C) = C2 at *
            rcases h with rfl | rfl
            all_goals
              go_wp2_with fail
              refine HRp.out.mono ?_
              rintro e w6 ⟨rfl, hR6, hF6⟩
              have hz6 := hF6.size
              obtain ⟨hM6, hR6', hA6⟩ := HSt.out w6 D2 C2 hR6 hF6
              have hV6 := HVb.out.fr hF6 (fun hs => by have := HAv.out _ hs.1; omega)
              have cv1 : w6.cell? ⟨wo.heap.size, 1, none⟩ = some (.int .i64 x1) := hV6.cell 1
              have cv2 : w6.cell? ⟨wo.heap.size, 2, none⟩ = some (.int .i64 x2) := hV6.cell 2
              have hlV6 := hV6.lt
              have hb6 : Below w.heap.size w w6 := Hbd.out.trans (hF6.below0 Hbd.out.size (fun i hi => by have := hi.2; omega))
              have HPt6 := hid (HPt.out w6 _ hM6 hA6 (Nat.le_trans hzd hz6))
              have HR6 := hid hR6'
              have HA6 := hid hA6
              have Hb6 := hid hb6
              clear hR6 hF6 hM6 hR6' hA6 hV6 hb6 HPt HRp
              go_wp2_with fail
              refine HPt6.out.mono ?_
              rintro e w7 ⟨rfl, hM7, hF7⟩
              have HP7 := hid (PairW.both HR6.out HA6.out hM7 hF7)
              have Hb7 := hid (Hb6.out.trans (hF7.below0 Hb6.out.size (fun i hi => by have := hi.1; omega)))
              have HE7 := hid (HE.out r2 w7 Hb7.out)
              clear hM7 hF7 HPt6 cv1 cv2
              go_wp2_with fail
              refine HE7.out.mono ?_
              rintro e w8 ⟨rfl, hb8⟩
              have HP8 := hid (HP7.out.belowS hb8)
              have Hb8 := hid (Below.step Hb7.out hb8 Hb7.out.size)
              clear hb8 HE7
              go_wp2_with fail
              go_meet
              exact ⟨rfl, D2, C2, _, Hl6.out.trans HCl.out, HP8.out, Hb8.out⟩
          · as_aux_lemma =>
            subst h
            have HRp := hid (rmdelW x1 x2 ⟨#[]⟩ (Nat.zero_le _) wd HRd.out hzd)
            have HPt := hid (fun W (A2 : Nat → Prop) h1 h2 h3 => mdelW (A := A2) (m := m) (D := D) (C := C) (base := w.heap.size) x1 x2 W h1 h2 h3)
            have hl6 := mdo_len C D x1 x2 (rdel D x2)
            have Hl6 := hid hl6
            clear hl6
            generalize mdoR C.length D x1 (rdel D x2) = R at *
            obtain ⟨⟨r1, r2⟩, D2⟩ := R
            simp only at HPt HRp Hl6
            generalize (if r2 = 0 then learnC C x1.toNat x2 D2 else C) = C2 at *
            go_wp2_with fail
            refine HRp.out.mono ?_
            rintro e w6 ⟨rfl, hR6, hF6⟩
            have hz6 := hF6.size
            obtain ⟨hM6, hR6', hA6⟩ := HSt.out w6 D2 C2 hR6 hF6
            have hV6 := HVb.out.fr hF6 (fun hs => by have := HAv.out _ hs.1; omega)
            have cv1 : w6.cell? ⟨wo.heap.size, 1, none⟩ = some (.int .i64 x1) := hV6.cell 1
            have cv2 : w6.cell? ⟨wo.heap.size, 2, none⟩ = some (.int .i64 x2) := hV6.cell 2
            have hlV6 := hV6.lt
            have hb6 : Below w.heap.size w w6 := Hbd.out.trans (hF6.below0 Hbd.out.size (fun i hi => by have := hi.2; omega))
            have HPt6 := hid (HPt.out w6 _ hM6 hA6 (Nat.le_trans hzd hz6))
            have HR6 := hid hR6'
            have HA6 := hid hA6
            have Hb6 := hid hb6
            clear hR6 hF6 hM6 hR6' hA6 hV6 hb6 HPt HRp
            go_wp2_with fail
            refine HPt6.out.mono ?_
            rintro e w7 ⟨rfl, hM7, hF7⟩
            have HP7 := hid (PairW.both HR6.out HA6.out hM7 hF7)
            have Hb7 := hid (Hb6.out.trans (hF7.below0 Hb6.out.size (fun i hi => by have := hi.1; omega)))
            have HE7 := hid (HE.out r2 w7 Hb7.out)
            clear hM7 hF7 HPt6 cv1 cv2
            go_wp2_with fail
            refine HE7.out.mono ?_
            rintro e w8 ⟨rfl, hb8⟩
            have HP8 := hid (HP7.out.belowS hb8)
            have Hb8 := hid (Below.step Hb7.out hb8 Hb7.out.size)
            clear hb8 HE7
            go_wp2_with fail
            go_meet
            exact ⟨rfl, D2, C2, _, Hl6.out.trans HCl.out, HP8.out, Hb8.out⟩
          · as_aux_lemma =>
            have HRp := hid (rmgetW x1 x2 x3 wd HRd.out hzd)
            have HPt := hid (fun W (A2 : Nat → Prop) h1 h2 h3 => mgetW (A := A2) (m := m) (D := D) (C := C) (base := w.heap.size) x1 x2 x3 W h1 h2 h3)
            have hl6 := mget_len D C x1 x2 x3
            have Hl6 := hid hl6
            clear hl6
            generalize mgetR D C x1 x2 x3 = R at *
            obtain ⟨⟨⟨y0, y1, y2, y3, y4⟩, ub, en⟩, C2⟩ := R
            simp only [E.val] at HPt HRp Hl6
            have heq := fun W => eqRunE y0 y1 y2 y3 y4 y0 y1 y2 y3 y4 W
            rw [eqbE_refl] at heq
            have Heq := hid heq
            clear heq
            rcases h with rfl | rfl
            all_goals
              go_wp2_with fail
              refine HRp.out.mono ?_
              rintro e w6 ⟨rfl, hR6, hF6⟩
              have hz6 := hF6.size
              obtain ⟨hM6, hR6', hA6⟩ := HSt.out w6 D C2 hR6 hF6
              have hV6 := HVb.out.fr hF6 (fun hs => by have := HAv.out _ hs.1; omega)
              have hb6 : Below w.heap.size w w6 := Hbd.out.trans (hF6.below0 Hbd.out.size (fun i hi => by have := hi.2; omega))
              have HM6 := hid hM6
              have HR6 := hid hR6'
              have HA6 := hid hA6
              have Hb6 := hid hb6
              have HV6 := hid hV6
              clear hR6 hF6 hM6 hR6' hA6 hV6 hb6 HRp
              go_upto_region 35 with fail
              obtain ⟨w7, hw7⟩ : ∃ W : World, W = w6.alloc (.cells #[.int .i64 y0, .int .i64 y1, .int .i64 y2, .bool y3, .string y4] 46) := ⟨_, rfl⟩
              rw [← hw7]
              have hb67 : Below w6.heap.size w6 w7 := by rw [hw7]; exact (Below.refl _ _).alloc (Nat.le_refl _) _
              have HX7 := hid (show Blk w7 w6.heap.size 46 #[.int .i64 y0, .int .i64 y1, .int .i64 y2, .bool y3, .string y4] by rw [hw7]; exact Blk.new _ _ _)
              have hz67 := hb67.size
              have hM7 := HM6.out.avoid hb67
              have hV7 := HV6.out.belowS hb67
              have cv1 : w7.cell? ⟨wo.heap.size, 1, none⟩ = some (.int .i64 x1) := hV7.cell 1
              have cv2 : w7.cell? ⟨wo.heap.size, 2, none⟩ = some (.int .i64 x2) := hV7.cell 2
              have cv3 : w7.cell? ⟨wo.heap.size, 3, none⟩ = some (.int .i64 x3) := hV7.cell 3
              have hlV7 := hV7.lt
              have Hb7 := hid (Below.step Hb6.out hb67 Hb6.out.size)
              have hA7 : ∀ i, AOr (AOr (AOr A wo wd) wd w6) w6 w7 i → i < w7.heap.size := fun i hi => by
                rcases hi with hi | hi
                · have := HA6.out i hi; omega
                · omega
              have HR7 := hid ((HR6.out.belowS hb67).more (A' := AOr (AOr (AOr A wo wd) wd w6) w6 w7) (fun i hi => .inl hi))
              have HA7 := hid hA7
              have HPt7 := hid (HPt.out w7 (AOr (AOr (AOr A wo wd) wd w6) w6 w7) hM7 hA7 Hb7.out.size)
              have HX7A := hid (show AOr (AOr (AOr A wo wd) wd w6) w6 w7 w6.heap.size from .inr ⟨Nat.le_refl _, HX7.out.lt⟩)
              clear hw7 hb67 hM7 hV7 hA7 HPt HM6 HR6 HA6 HV6
              go_wp2_with fail
              refine HPt7.out.mono ?_
              rintro e w8 ⟨rfl, hM8, hF8⟩
              have HP8 := hid (PairW.both HR7.out HA7.out hM8 hF8)
              have HX8 := hid (HX7.out.fr hF8 (fun hs => hs.2 HX7A.out))
              have Hb8 := hid (Hb7.out.trans (hF8.below0 Hb7.out.size (fun i hi => by have := hi.1; omega)))
              clear hM8 hF8 HPt7 cv1 cv2 cv3 HX7 HX7A HR7 HA7
              go_upto_region 36 with fail
              obtain ⟨w9, hw9⟩ : ∃ W : World, W = w8.alloc (.cells #[.int .i64 y0, .int .i64 y1, .int .i64 y2, .bool y3, .string y4] 46) := ⟨_, rfl⟩
              rw [← hw9]
              have hb89 : Below w8.heap.size w8 w9 := by rw [hw9]; exact (Below.refl _ _).alloc (Nat.le_refl _) _
              have HY9 := hid (show Blk w9 w8.heap.size 46 #[.int .i64 y0, .int .i64 y1, .int .i64 y2, .bool y3, .string y4] by rw [hw9]; exact Blk.new _ _ _)
              have HX9 := hid (HX8.out.belowS hb89)
              have Hb9 := hid (Below.step Hb8.out hb89 Hb8.out.size)
              have HP9 := hid (HP8.out.belowS hb89)
              have HE9 := hid (HE.out en w9 Hb9.out)
              clear hw9 hb89 HP8 HX8
              go_wp2_with fail
              refine HE9.out.mono ?_
              rintro e wa ⟨rfl, hba⟩
              have hXa := HX9.out.belowS hba
              have hYa := HY9.out.belowS hba
              have HPa := hid (HP9.out.belowS hba)
              have Hba := hid (Below.step Hb9.out hba Hb9.out.size)
              have c0 : wa.cell? ⟨w6.heap.size, 0, none⟩ = some (.int .i64 y0) := hXa.cell 0
              have c1 : wa.cell? ⟨w6.heap.size, 1, none⟩ = some (.int .i64 y1) := hXa.cell 1
              have c2 : wa.cell? ⟨w6.heap.size, 2, none⟩ = some (.int .i64 y2) := hXa.cell 2
              have c3 : wa.cell? ⟨w6.heap.size, 3, none⟩ = some (.bool y3) := hXa.cell 3
              have c4 : wa.cell? ⟨w6.heap.size, 4, none⟩ = some (.string y4) := hXa.cell 4
              have d0 : wa.cell? ⟨w8.heap.size, 0, none⟩ = some (.int .i64 y0) := hYa.cell 0
              have d1 : wa.cell? ⟨w8.heap.size, 1, none⟩ = some (.int .i64 y1) := hYa.cell 1
              have d2 : wa.cell? ⟨w8.heap.size, 2, none⟩ = some (.int .i64 y2) := hYa.cell 2
              have d3 : wa.cell? ⟨w8.heap.size, 3, none⟩ = some (.bool y3) := hYa.cell 3
              have d4 : wa.cell? ⟨w8.heap.size, 4, none⟩ = some (.string y4) := hYa.cell 4
              have hlX := hXa.lt
              have hlY := hYa.lt
              have heq := Heq.out
              clear hba hXa hYa HE9
              go_wp2_with fail
              go_meet
              exact ⟨rfl, D, C2, _, Hl6.out.trans HCl.out, HPa.out, Hba.out⟩
          · as_aux_lemma =>
            obtain ⟨h0, h1, h2, h3, h4⟩ := h
            have b0 : (x0 == 0) = false := by rw [beq_eq_false_iff_ne]; exact h0
            have b1 : (x0 == 1) = false := by rw [beq_eq_false_iff_ne]; exact h1
            have b2 : (x0 == 2) = false := by rw [beq_eq_false_iff_ne]; exact h2
            have b3 : (x0 == 3) = false := by rw [beq_eq_false_iff_ne]; exact h3
            have b4 : (x0 == 4) = false := by rw [beq_eq_false_iff_ne]; exact h4
            have HRp := hid (rmswapW x1 x2 wd HRd.out hzd)
            have HPt := hid (fun W (A2 : Nat → Prop) h1 h2 h3 h4 => mswapW (A := A2) (m := m) (D := D) (C := C) (base := w.heap.size) x1 x2 W h1 h2 h3 h4)
            have hl6 := mswap_len C x1 x2
            have Hl6 := hid hl6
            clear hl6 h0 h1 h2 h3 h4
            generalize mswapR C x1 x2 = R at *
            obtain ⟨r2, C2⟩ := R
            simp only at HPt HRp Hl6
            go_wp2_with fail
            refine HRp.out.mono ?_
            rintro e w6 ⟨rfl, hR6, hF6⟩
            have hz6 := hF6.size
            obtain ⟨hM6, hR6', hA6⟩ := HSt.out w6 D C2 hR6 hF6
            have hV6 := HVb.out.fr hF6 (fun hs => by have := HAv.out _ hs.1; omega)
            have cv1 : w6.cell? ⟨wo.heap.size, 1, none⟩ = some (.int .i64 x1) := hV6.cell 1
            have cv2 : w6.cell? ⟨wo.heap.size, 2, none⟩ = some (.int .i64 x2) := hV6.cell 2
            have hlV6 := hV6.lt
            have hb6 : Below w.heap.size w w6 := Hbd.out.trans (hF6.below0 Hbd.out.size (fun i hi => by have := hi.2; omega))
            have HPt6 := hid (HPt.out w6 _ hM6 hA6 (Nat.le_trans hzd hz6) (HTb.out w6 hb6))
            have HR6 := hid hR6'
            have HA6 := hid hA6
            have Hb6 := hid hb6
            clear hR6 hF6 hM6 hR6' hA6 hV6 hb6 HPt HRp
            go_wp2_with fail
            refine HPt6.out.mono ?_
            rintro e w7 ⟨rfl, hM7, hF7⟩
            have HP7 := hid (PairW.both HR6.out HA6.out hM7 hF7)
            have Hb7 := hid (Hb6.out.trans (hF7.below0 Hb6.out.size (fun i hi => by have := hi.1; omega)))
            have HE7 := hid (HE.out r2 w7 Hb7.out)
            clear hM7 hF7 HPt6 cv1 cv2
            go_wp2_with fail
            refine HE7.out.mono ?_
            rintro e w8 ⟨rfl, hb8⟩
            have HP8 := hid (HP7.out.belowS hb8)
            have Hb8 := hid (Below.step Hb7.out hb8 Hb7.out.size)
            clear hb8 HE7
            go_wp2_with fail
            go_meet
            exact ⟨rfl, D, C2, _, Hl6.out.trans HCl.out, HP8.out, Hb8.out⟩
        case rest =>
        obtain ⟨rfl, D2, C2, A2, hC2, hP2, hb2⟩ := hcut
        obtain ⟨wf, rfl⟩ : ∃ wf : World, wf = wc := ⟨_, rfl⟩
        have HSq := hid (fun W (hW : Below wf.heap.size wf W) => (mseqW W (hP2.prog.belowS hW)).mono (fun _ _ (h : _ ∧ _) => (⟨h.1, h.2.symm⟩ : _ ∧ _)))
        obtain ⟨bq, Bq, cq, j0, j1, hbq⟩ := hP2.ref.c0
        have hlk := hP2.ref.lt.2
        have hne : ((D2.length : Int) != (D2.length : Int)) = false := by simp
        have HP2 := hid hP2
        have HC2 := hid hC2
        have Hb2 := hid hb2
        have hzf := hb2.size
        clear hP2 hC2 hb2 HP HRd HSt HAv cv0 cv1 cv2 cv3 HVb
        go_upto_region 37 with fail
        go_cut [230] (fun t wx => t = .bool false ∧ Below wf.heap.size wf wx)
        case first =>
          go_quiet ((go_at_call 13; exact Calls.quiet_of_same (HSq.out (World.drewN wf _) (Below.manyDrew (Below.refl _ _) _))))
          go_wp2_with fail
          go_meet
          exact ⟨rfl, Below.manyDrew (Below.refl _ _) _⟩
        case rest =>
        obtain ⟨rfl, hcut⟩ := hcut
        obtain ⟨wg, rfl⟩ : ∃ wg : World, wg = wc := ⟨_, rfl⟩
        have HPg := hid (fun W (hW : Below wg.heap.size wg W) => (HP2.out.belowS hcut).belowS hW)
        have Hbg := hid (Below.step Hb2.out hcut hzf)
        have hzg := Hbg.out.size
        clear hcut HSq j0 j1 hne
        go_wp2_with fail
        go_loopw [31] (fun i wr => ∃ c : Nat, c ≤ N ∧ i = .int .i64 c ∧ Below wg.heap.size wg wr) (fun i _ => N - (intOf i).toNat)
        case atStart => exact ⟨0, Nat.zero_le _, rfl, Below.refl _ _⟩
        case round =>
          obtain ⟨c, hc, rfl, hbk⟩ := hrel
          obtain ⟨wk, rfl⟩ : ∃ wk : World, wk = wr := ⟨_, rfl⟩
          have Hbk := hid hbk
          have hzk := hbk.size
          by_cases hlc : c < N
          · have hcl : c < C2.length := by have := HC2.out; omega
            have HCa := hid (mcacheW c wk (HPg.out wk hbk).prog)
            rw [show inM C2.length (c : Int) = true from inM_true.2 ⟨by omega, by omega⟩, if_pos rfl, if_pos rfl, errV_zero, Int.toNat_natCast] at HCa
            have hCN := HC2.out
            have hcI : (c : Int) < (C2.length : Int) := by omega
            clear hbk
            go_wp2_with fail
            refine HCa.out.mono ?_
            rintro e wl ⟨⟨y, rfl, hyx, hyo⟩, hbl⟩
            have Hbl := hid (Below.step Hbk.out hbl hzk)
            obtain ⟨gq, z, i1, i2, hgq, hzx, hzA⟩ := (HPg.out wl Hbl.out).ref.c1 hcl
            have hlk2 := (HPg.out wl Hbl.out).ref.lt.2
            have HEc := hid (ecache_any y z wl hyo.es hzA)
            rw [show eqsE y.xs z.xs = true from by rw [hyx, hzx]; exact eqsE_refl _] at HEc
            clear hyx hyo hzx hzA hbl HCa
            go_wp2_with fail
            refine HEc.out.mono ?_
            rintro e wn ⟨rfl, hbn⟩
            have Hbn := hid (Below.step Hbl.out hbn Hbl.out.size)
            clear hbn HEc i1 i2
            go_wp2_with fail
            go_roundw
            case rel => exact ⟨c + 1, by omega, by go_num, Hbn.out⟩
            case measure => simp [intOf]; omega
          · have HPk := hid (HPg.out wk hbk)
            have Hbw := hid (Below.step Hbg.out hbk hzg)
            clear hbk HPg
            go_wp2_with fail
            go_roundw
            case rel => exact ⟨n + 1, D2, C2, A2, by omega, by go_num, HC2.out, HPk.out, Hbw.out⟩
            case measure => simp [intOf]; omega
    · have hcc : (¬ (n : Int) < (st.xs.length : Int)) ∨ ((n : Int) < (st.xs.length : Int) ∧ ¬ (n : Int) < 60) := by omega
      have HCa := hid (mcacheW N wr hP.prog)
      rw [show inM C.length (N : Int) = false from inM_false.2 (by omega), if_neg (by decide), if_neg (by decide)] at HCa
      have Hbr := hid hbr
      have HE1 := hid (HE.out 1)
      clear hP hbr hcond hCl
      rcases hcc with h | ⟨h1, h2⟩
      all_goals
        go_wp2_with fail
        refine HCa.out.mono ?_
        rintro e wl ⟨⟨y, rfl, hyx, hyo⟩, hbl⟩
        have Hbl := hid (Below.step Hbr.out hbl Hbr.out.size)
        have HEl := hid (HE1.out wl Hbl.out)
        clear hbl hyx hyo HCa
        go_wp2_with fail
        refine HEl.out.mono ?_
        rintro e wn ⟨rfl, hbn⟩
        have Hbn := hid (Below.step Hbl.out hbn Hbl.out.size)
        clear hbn HEl
        go_wp2_with fail
        go_ret
        exact ⟨rfl, Hbn.out⟩

set_option maxRecDepth 100000 in
theorem meshPlays_walk : LawWalk Tryz.prog 3 Tryz.f3 (fun W => Tb W ∧ Gl W) := by
  intro W base args H enc ds p hval hA hgl
  rw [Tryz.params3] at hA hval
  obtain ⟨v0, v1, v2, d0, d1, d2, p0, p1, p2, rfl, rfl, rfl, h0, h1, h2⟩ := trodAll_three hA
  obtain ⟨n, rfl, _⟩ := arg_int Tryz.underlying3 (hval 0 3 v0 rfl rfl) h0
  obtain ⟨st, rfl, hst⟩ := arg_slice Tryz.underlying22 codecInts (pos_of_eq Tryz.cellsInts (by decide)) (hval 1 22 v1 rfl rfl) h1
  obtain ⟨tx, rfl, htx⟩ := arg_slice Tryz.underlying23 (Codec.str Tryz.underlying9) (pos_of_eq Tryz.cellsStr (by decide)) (hval 2 23 v2 rfl rfl) h2
  exact meshPlays_any n st tx W (intssAt_of hst) (strsAt_of htx) hgl.1 hgl.2

set_option maxRecDepth 100000 in
theorem meshPlays_lifted (os : Os) (started : os.Started) (H : Type) (enc : TypeId × Value → H) :
    ReturnsInHanded {} Tryz.checked os 3 .any (fun w args => (Rows.meshPlaysSpec.pre enc Tryz.checked.prog Tryz.f3 [] false w args ∧ laidMetH Tryz.prog laid4 w) ∧ sizedMet enc Tryz.checked.prog Tryz.f3 (OpenSpec.ofChange Rows.meshPlaysSpec) false w args) (Rows.meshPlaysSpec.post enc Tryz.checked.prog Tryz.f3 false true false false) :=
  laid_lifted (C := Tryz.checked) laid4 (fun _ h => tb_of_laid4 h) [] Tryz.own started (by kernel_rfl) Tryz.func3 Tryz.laidOut (by kernel_rfl) rfl Tryz.underlying4 rfl (fun ds h => by match ds, h with | [_, _, _], _ => rfl)
    (ChangeSpec.witness_shaped (enc := enc) (C := Tryz.checked) (os := os) (X := fun w _ => laidMetH Tryz.prog laid4 w) false (World.doorLaid Tryz.prog 4000 os) #[.int .i64 0, .slice none 0 0, .slice none 0 0] 8 rfl (World.shaped_of_RefB (by kernel_rfl) (by kernel_rfl)) (by kernel_rfl) (by kernel_rfl) (by kernel_rfl) (door_met4 os _)) meshPlays_walk

theorem meshPlays_row : Rows.MeshPlaysSaid :=
  OpenClaim.holds_of_wide 3 Tryz.f3 rfl rfl rfl rfl rfl rfl rfl ⟨rfl, rfl, rfl, rfl, rfl⟩ rfl rfl rfl rfl rfl (by kernel_rfl) Tryz.func3 (by kernel_rfl)
    (of_decide_eq_true (by kernel_rfl)) (by unfold Func.isWrapper; rw [if_neg (of_decide_eq_false (by kernel_rfl))]; exact ⟨rfl, rfl⟩)
    (fun os started H enc _ => meshPlays_lifted os started H enc)

theorem meshPlays_holds : Rows.MeshPlaysCardSaid :=
  Claim7.holds_tied_plain_at .later [] [.data, .data, .data, .handle] true _ true
    meshPlays_row (fun _ h => by cases h) (by kernel_rfl) (fun _ h => by cases h) meshPlays_row_tie rfl ⟨rfl, rfl⟩ (by kernel_rfl) rfl
    (fun f fn hf hfn => by
      obtain rfl : f = 3 := Option.some.inj ((show Tryz.prog.funcNamed "beaconmere/merelaw2.MeshPlays" = some 3 by kernel_rfl).symm.trans hf) |>.symm
      obtain rfl : fn = Tryz.f3 := (Option.some.inj (Tryz.func3.symm.trans hfn)).symm
      refine ⟨by kernel_rfl, fun j t ht => ?_⟩
      have hall : Tryz.f3.params.toList.all (fun t => !Tryz.prog.wantsStandIn t) = true := by kernel_rfl
      have hm : t ∈ Tryz.f3.params.toList := by
        obtain ⟨hj, hje⟩ := Array.getElem?_eq_some_iff.1 ht
        rw [← hje]
        exact Array.mem_toList_iff.2 (Array.getElem_mem hj)
      have := List.all_eq_true.1 hall t hm
      exact (show Tryz.prog.wantsStandIn t = false by simpa using this))
    (by kernel_rfl)

end Go.Proofs.YtneilklimpdeoaaGreatDoor
