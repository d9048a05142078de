/-
  PROVED HERE: merelaw3.RunAnswers returns true: any session is answered, line by line, as the reference says. CONDITIONS: the library's variables as the program's text lays them (tied by the card).
-/
import Derived.Test.YtemhdfodghfkfaaGreatDoorRunRun
import Derived.Test.YtemhdfodghfkfaaGreatDoorRefLine
import Derived.Test.YtemhdfodghfkfaaGreatDoorDoorR
namespace Go.Proofs.YtemhdfodghfkfaaGreatDoor
open Go.RowKit
open Go.ChangeShapes Go.WideShapes Go.ChangeAt

theorem getLast_cut (C : List Tx) (h : C ≠ []) : C.getLast? = some (C.getD (C.length - 1) []) := by
  rw [List.getLast?_eq_getElem?, List.getD_eq_getElem?_getD]
  have : 0 < C.length := List.length_pos_iff.2 h
  rw [List.getElem?_eq_getElem (by omega)]
  rfl
theorem rmake3 (W : World) : (Instr.makeSlice 30 (.int .i64 3) (.int .i64 3)).run Tryz.prog W = .ok (.slice (some ⟨W.heap.size, 0, none⟩) 3 3) (W.alloc (.cells ((noneC 3).map SlV.val).toArray 27)) := rmake 3 (by decide) W
set_option maxHeartbeats 8000000 in
set_option maxRecDepth 100000 in
theorem answers_any (t : Tx) (hl : t.length ≤ maxLen) (w : World) (hT : Tr w) :
    Calls Tryz.prog 3 #[.string (mkB t)] w fun e w' => e = .returned (.bool true) ∧ Below w.heap.size w w' := by
  have hsz := mkB_size t
  have HR := hid (run_any t hl w hT)
  unfold maxLen at hl
  clear hT
  by_cases h3 : 3000 < t.length
  · have h3' : (3000 : Int) < (t.length : Int) := by omega
    have hlong : runT t = longT := if_pos h3
    rw [hlong] at HR
    have HR2 := hid (show Calls Tryz.prog 6 #[.string (mkB t)] w (fun e w' => e = .returned (.string ⟨#[116, 111, 111, 32, 108, 111, 110, 103, 10]⟩) ∧ Below w.heap.size w w') from HR.out)
    clear hlong HR h3
    go_enter Tryz.func3, Tryz.ntmps3
    go_wp2_with fail
    refine HR2.out.mono ?_
    rintro e w1 ⟨rfl, hb1⟩
    go_wp2_with fail
    go_ret
    exact ⟨rfl, hb1⟩
  have h3' : ¬ (3000 : Int) < (t.length : Int) := by omega
  have hrun : runT t = RSt.new.run (linesT t) := if_neg h3
  obtain ⟨L, hLe⟩ : ∃ L, linesT t = L := ⟨_, rfl⟩
  obtain ⟨C, hCe⟩ : ∃ C, cutC 10 t = C := ⟨_, rfl⟩
  have hcut := linesT_cut t.length t (Nat.le_refl _)
  have hne := cutC_ne 10 t
  have hmany := cutC_many 10 t
  have hplen := cutC_len 10 t
  have HC := hid (rcut_any t (by omega) 10)
  rw [hLe] at hrun hcut
  rw [hCe] at hcut hne hmany hplen HC
  rw [hrun] at HR
  have hC0 : 0 < C.length := List.length_pos_iff.2 hne
  obtain ⟨last, hlast⟩ : ∃ x, C.getD (C.length - 1) [] = x := ⟨_, rfl⟩
  have hgl := getLast_cut C hne
  rw [hlast] at hgl
  have HC1 := hid (fun W => (show Calls Tryz.prog 7 #[.string (mkB t), .int .u8 10] W (CutR C W) from HC.out W))
  generalize hG : RSt.new.run L = G at *
  have HG := hid hG
  clear hG hLe hCe hrun HC hne
  go_enter Tryz.func3, Tryz.ntmps3
  go_wp2_with fail
  refine HR.out.mono ?_
  rintro e w1 ⟨rfl, hb1⟩
  have Hb1 := hid hb1
  clear hb1 HR
  go_wp2_with fail
  refine (HC1.out _).mono ?_
  rintro e w2 ⟨⟨A, c, xs⟩, rfl, hxs, hst, hcap, hb2⟩
  obtain rfl : xs = C.map mkB := hxs
  have hml : (C.map mkB).length = C.length := List.length_map ..
  obtain ⟨b, off, hA, hbl, hcells⟩ := hst.row (by show 0 < (C.map mkB).length; omega)
  obtain rfl : A = some ⟨b, off, none⟩ := hA
  have hcl : ∀ k, k < C.length → w2.cell? ⟨b, off + k, none⟩ = some (.string (mkB (C.getD k []))) := fun k hk => by
    have h1 := hcells k (by show k < (C.map mkB).length; omega)
    rw [h1]
    show some (Value.string ((C.map mkB)[k]'_)) = _
    rw [List.getElem_map, List.getD_eq_getElem?_getD, List.getElem?_eq_getElem hk]
    rfl
  have hcl1 := hcl (C.length - 1) (by omega)
  rw [hlast] at hcl1
  have Hb2 := hid (Below.step Hb1.out hb2 Hb1.out.size)
  have hz2 := Hb2.out.size
  have Hcl := hid hcl
  simp only [hml] at hcap ⊢
  obtain ⟨n, hn⟩ : ∃ n : Nat, C.length = n + 1 := ⟨C.length - 1, by omega⟩
  rw [hn] at hcap hcl1 hmany ⊢
  simp only [Nat.add_sub_cancel] at hcl1
  have hLl : (last = [] → L = C.dropLast) ∧ (last ≠ [] → L = C) := by
    rw [hgl] at hcut
    exact ⟨fun e => by rw [hcut, e, if_pos rfl], fun e => by rw [hcut, if_neg (fun h => e (by injection h))]⟩
  have hLc : ∀ k, k < L.length → w2.cell? ⟨b, off + k, none⟩ = some (.string (mkB (L.getD k []))) ∧ (L.getD k []).length ≤ 3000 := fun k hk => by
    have hkC : k < C.length ∧ L.getD k [] = C.getD k [] := by
      by_cases he : last = []
      · have h := hLl.1 he
        rw [h, List.length_dropLast] at hk
        refine ⟨by omega, ?_⟩
        rw [h, List.getD_eq_getElem?_getD, List.getD_eq_getElem?_getD, List.getElem?_dropLast, if_pos (by omega)]
      · have h := hLl.2 he
        rw [h] at hk ⊢
        exact ⟨hk, rfl⟩
    rw [hkC.2]
    refine ⟨Hcl.out k hkC.1, Nat.le_trans (hplen _ ?_) (by omega)⟩
    rw [List.getD_eq_getElem?_getD, List.getElem?_eq_getElem hkC.1]
    exact List.getElem_mem _
  have hLlen : L.length = if last = [] then n else n + 1 := by
    split
    · rw [hLl.1 ‹_›, List.length_dropLast, hn, Nat.add_sub_cancel]
    · rw [hLl.2 ‹_›, hn]
  have HLc := hid hLc
  have HLl := hid hLlen
  have hLm : L.length ≤ 3001 := by rw [hLlen]; split <;> omega
  have Hq := hid (show (mkB last).toList.isEmpty = decide (last = []) from by
    rw [ByteArray.toList_eq]
    show last.isEmpty = _
    cases last with
    | nil => rfl
    | cons x r => rfl)
  clear hb2 hst hcells hcl Hcl hcut hgl hLl hLc hplen hLlen hlast hn hC0 hml HC1
  generalize mkB last = lastB at *
  go_upto_if 24 with fail
  go_cut [4] (fun v wx => v = .slice (some ⟨b, off, none⟩) L.length c ∧ wx = w2)
  case first =>
    by_cases he : last = []
    · have q : lastB.toList.isEmpty = true := Hq.out.trans (decide_eq_true he)
      have hL : L.length = n := HLl.out.trans (if_pos he)
      have HL := hid hL
      clear he hL
      go_wp2_with fail
      all_goals
        rename_i hx
        first
          | (exfalso; rw [q] at hx; cases hx; done)
          | (go_meet; exact ⟨congrArg (fun z => Value.slice (some ⟨b, off, none⟩) z c) HL.out.symm, rfl⟩)
    · have q : lastB.toList.isEmpty = false := Hq.out.trans (decide_eq_false he)
      have hL : L.length = n + 1 := HLl.out.trans (if_neg he)
      have HL := hid hL
      clear he hL
      go_wp2_with fail
      all_goals
        rename_i hx
        first
          | (exfalso; rw [q] at hx; cases hx; done)
          | (go_meet; exact ⟨congrArg (fun z => Value.slice (some ⟨b, off, none⟩) z c) HL.out.symm, rfl⟩)
  case rest =>
  obtain ⟨rfl, hwc⟩ := hcut
  obtain rfl : w2 = wc := hwc.symm
  clear hcl1 hmany hcap Hq HLl
  have hmk := rmake3
  go_upto_region 8 with fail
  obtain ⟨w3, hw3⟩ : ∃ W : World, W = ((w2.alloc (.cells #[.slice none 0 0] 29)).alloc (.cells ((noneC 3).map SlV.val).toArray 27)).alloc (.cells #[.pointer (some ⟨w2.heap.size, 0, none⟩), .slice (some ⟨w2.heap.size + 1, 0, none⟩) 3 3] 32) := ⟨_, rfl⟩
  rw [← hw3]
  have hM3 := RMeshW.first (base := w2.heap.size) (N := 3) (by decide) (Nat.le_refl _) hw3
  have hb23 : Below w2.heap.size w2 w3 := by rw [hw3]; exact (((Below.refl _ _).alloc (Nat.le_refl _) _).alloc (by simp) _).alloc (by simp; omega) _
  have HM3 := hid hM3
  have Hb23 := hid hb23
  obtain ⟨B, hBe⟩ : ∃ B : Nat, B = w2.heap.size := ⟨_, rfl⟩
  rw [← hBe] at HM3 Hb23 ⊢
  have HBe := hid hBe
  clear hmk hM3 hb23 hw3 hBe
  go_wp2_with fail
  go_loopw [6, 7] (fun v i wr => ∃ (k : Nat) (S : RSt), k ≤ L.length ∧ i = .int .i64 k ∧ v = .string (mkB (RSt.new.run (L.take k))) ∧ S = RSt.new.all (L.take k) ∧ (RSt.new.run (L.take k)).length ≤ 4001 * k ∧ RMeshW B wr (B + 2) S.D S.C (fun i => B ≤ i ∧ i < wr.heap.size) ∧ S.C.length = 3 ∧ Below B w2 wr) (fun _ i _ => L.length - (intOf i).toNat)
  case atStart => exact ⟨0, RSt.new, Nat.zero_le _, rfl, rfl, rfl, Nat.zero_le _, HM3.out, rfl, Hb23.out⟩
  case round =>
    obtain ⟨k, S, hk, rfl, rfl, hS, hTl, hM, hC3, hbr⟩ := hrel
    have hzr := hbr.size
    have HSe := hid hS
    have HM := hid hM
    have HC3 := hid hC3
    have Hbr := hid hbr
    clear hS hM hC3
    by_cases hlt : k < L.length
    · obtain ⟨hc0, hll⟩ := HLc.out k hlt
      have hx := (hbr.cell (p := ⟨b, off + k, none⟩) (by rw [HBe.out]; exact hbl)).trans hc0
      have hx2 := line_len (S := S) HM.out.deeds HM.out.cac (L.getD k [])
      have htk : L.take (k + 1) = L.take k ++ [L.getD k []] := by
        rw [List.take_succ_eq_append_getElem hlt, List.getD_eq_getElem?_getD, List.getElem?_eq_getElem hlt]
        rfl
      have hrn : RSt.new.run (L.take (k + 1)) = RSt.new.run (L.take k) ++ ((S.line (L.getD k [])).1 ++ [10]) := by rw [htk, RSt.run_snoc, HSe.out]
      have han : RSt.new.all (L.take (k + 1)) = (S.line (L.getD k [])).2 := by rw [htk, RSt.all_snoc, HSe.out]
      have HLn := hid (rline_any (S := S) (L.getD k []) hll wr HM.out (by rw [HBe.out]; exact hzr) (fun i hi => hi.2) (by rw [HC3.out]; decide))
      have hkeep := line_keep S (L.getD k [])
      have hlt' : (k : Int) < (L.length : Int) := by omega
      generalize L.getD k [] = ln at *
      generalize S.line ln = r at *
      obtain ⟨X, S2⟩ := r
      simp only at hx2 hrn han hkeep
      generalize RSt.new.run (L.take k) = T at *
      have hTs := mkB_size T
      have hXs := mkB_size X
      have q1 : ¬ 9223372036854775807 < T.length + X.length := by omega
      have q2 : ¬ 9223372036854775807 < T.length + X.length + 1 := by omega
      have Hv := hid (show mkB T ++ mkB X ++ ⟨#[10]⟩ = mkB (T ++ (X ++ [10])) by rw [show (⟨#[10]⟩ : ByteArray) = mkB [10] from rfl, mkB_append, mkB_append, List.append_assoc])
      have Hrn := hid hrn
      have Han := hid han
      have Hkeep := hid (hkeep.trans HC3.out)
      clear hc0 hll htk hrn han hkeep hbr
      go_wp2_with fail
      refine HLn.out.mono ?_
      rintro e w5 ⟨rfl, hM5, hF5⟩
      have hz5 := hF5.size
      have hM6 := hid (hM5.more (A' := fun i => B ≤ i ∧ i < w5.heap.size) (fun i hi => hi.elim (fun h => ⟨h.1, Nat.lt_of_lt_of_le h.2 hz5⟩) (fun h => ⟨by have h1 := h.1; have h2 := Hbr.out.size; have h3 := HBe.out; omega, h.2⟩)))
      have hb5 := hid (show Below B w2 w5 from Hbr.out.trans (hF5.below0 (by rw [HBe.out]; exact hzr) (fun i hi => hi.2)))
      clear hM5 hF5 HLn
      go_wp2_with fail
      go_roundw
      case rel => exact ⟨k + 1, S2, by omega, by go_num, by rw [Hrn.out, ← Hv.out], Han.out.symm, by rw [Hrn.out, List.length_append, List.length_append, List.length_singleton]; omega, hM6.out, Hkeep.out, hb5.out⟩
      case measure => simp [intOf]; omega
    · obtain rfl : k = L.length := by omega
      rw [List.take_length, HG.out]
      have hnlt : ¬ (L.length : Int) < (L.length : Int) := by omega
      have q : ((mkB G).toList == (mkB G).toList) = true := beq_self_eq_true _
      generalize mkB G = GB at *
      have Hbf := hid (show Below w.heap.size w wr from Below.step Hb2.out (by rw [← HBe.out]; exact Hbr.out) hz2)
      clear hbr HM HSe hTl
      go_wp2_with fail
      go_ret
      exact ⟨rfl, Hbf.out⟩
set_option maxRecDepth 100000 in
theorem runAnswers_walk : LawWalk Tryz.prog 3 Tryz.f3 Tr := by
  intro W base args H enc ds p hval hA hT
  rw [Tryz.params3] at hA hval
  obtain ⟨v0, d0, rfl, rfl, h0⟩ := trodAll_one hA
  obtain ⟨s, rfl, _⟩ := arg_str Tryz.underlying9 (hval 0 9 v0 rfl rfl) h0
  obtain ⟨fuel, hn⟩ := h0
  obtain ⟨s', hs', -, hl⟩ := DataW.trod_string Tryz.underlying9 hn
  obtain rfl : s = s' := by simpa [Value.cells] using hs'
  rw [← mkB_back s]
  exact answers_any s.data.toList (by rw [← Lib.size_eq]; exact hl) W hT

set_option maxRecDepth 100000 in
theorem runAnswers_lifted (os : Os) (started : os.Started) (H : Type) (enc : TypeId × Value → H) :
    ReturnsInHanded {} Tryz.checked os 3 .any (fun w args => (Rows.runAnswersSpec.pre enc Tryz.checked.prog Tryz.f3 [] false w args ∧ laidMetH Tryz.prog laid9 w) ∧ sizedMet enc Tryz.checked.prog Tryz.f3 (OpenSpec.ofChange Rows.runAnswersSpec) false w args) (Rows.runAnswersSpec.post enc Tryz.checked.prog Tryz.f3 false true false false) :=
  laid_lifted9 (C := Tryz.checked) laid9 (fun _ hs h => tr_of_laid9 hs h) [] Tryz.own started (by kernel_rfl) Tryz.func3 Tryz.laidOut (by kernel_rfl) rfl Tryz.underlying4 rfl (fun ds h => by match ds, h with | [_], _ => rfl)
    (ChangeSpec.witness_shaped (enc := enc) (C := Tryz.checked) (os := os) (X := fun w _ => laidMetH Tryz.prog laid9 w) false (laidWorld9 os) #[.string ⟨#[]⟩] 8 (laidWorld9_os os) (World.shaped_of_RefB (by kernel_rfl) (by kernel_rfl)) (by kernel_rfl) (by kernel_rfl) (by kernel_rfl) (door_met9 os _)) runAnswers_walk

theorem runAnswers_row : Rows.RunAnswersSaid :=
  OpenClaim.holds_of_wide 3 Tryz.f3 rfl rfl rfl rfl rfl rfl rfl ⟨rfl, rfl, rfl, rfl, rfl⟩ rfl rfl rfl rfl rfl (by kernel_rfl) Tryz.func3 (by kernel_rfl)
    (of_decide_eq_true (by kernel_rfl)) (by unfold Func.isWrapper; rw [if_neg (of_decide_eq_false (by kernel_rfl))]; exact ⟨rfl, rfl⟩)
    (fun os started H enc _ => runAnswers_lifted os started H enc)

theorem runAnswers_holds : Rows.RunAnswersCardSaid :=
  Claim7.holds_tied_plain_at .later [] [.data, .data, .data, .data, .handle, .sentinel, .sentinel, .wider, .pinned] true _ true
    runAnswers_row (fun _ h => by cases h) (by kernel_rfl) (fun _ h => by cases h) runAnswers_row_tie rfl ⟨rfl, rfl⟩ (by kernel_rfl) rfl
    (fun f fn hf hfn => by
      obtain rfl : f = 3 := Option.some.inj ((show Tryz.prog.funcNamed "beaconmere/merelaw3.RunAnswers" = some 3 by kernel_rfl).symm.trans hf) |>.symm
      obtain rfl : fn = Tryz.f3 := (Option.some.inj (Tryz.func3.symm.trans hfn)).symm
      refine ⟨by kernel_rfl, fun j t ht => ?_⟩
      have hall : Tryz.f3.params.toList.all (fun t => !Tryz.prog.wantsStandIn t) = true := by kernel_rfl
      have hm : t ∈ Tryz.f3.params.toList := by
        obtain ⟨hj, hje⟩ := Array.getElem?_eq_some_iff.1 ht
        rw [← hje]
        exact Array.mem_toList_iff.2 (Array.getElem_mem hj)
      have := List.all_eq_true.1 hall t hm
      exact (show Tryz.prog.wantsStandIn t = false by simpa using this))
    (by kernel_rfl)

end Go.Proofs.YtemhdfodghfkfaaGreatDoor
