/-
  run.begin: the desk of a session as it begins. CONDITIONS: the library's table of the powers of ten reads as it is laid (Tb).
  A strings.Builder of the call's own whose row lies beyond a given place. CONDITIONS: none.
  PLAIN: how long an answer is; the lines of a text. CONDITIONS: none.
-/
import Derived.Test.YtemhdfodghfkfaaGreatDoorRunLine
import Derived.Test.YtemhdfodghfkfaaGreatDoorHEnt
namespace Go.Proofs.YtemhdfodghfkfaaGreatDoor
open Go.RowKit
open Go.ChangeShapes Go.WideShapes Go.ChangeAt

theorem ptsE3 : ptsE [0, 1, 2] 4 = 0 := by decide
set_option maxHeartbeats 4000000 in
set_option maxRecDepth 100000 in
theorem begin_any (w : World) (hT : Tb w) : Calls Tryz.prog 10 #[] w fun e w' => ∃ d, e = .returned (.tuple #[.pointer (some ⟨d, 0, none⟩), .nilIface]) ∧ DeskW (fun _ => False) w.heap.size w' d RSt.new ∧ Below w.heap.size w w' := by
  have HM := hid (mnew_ok 3 w (by decide) (by decide))
  have HT := hid hT
  clear hT
  go_enter Tryz.func10, Tryz.ntmps10
  go_wp2_with fail
  refine HM.out.mono ?_
  rintro e w1 ⟨v, rfl, hR⟩
  obtain ⟨m, rfl, hM, hb1⟩ := hR.meshW
  have Hb1 := hid hb1
  have HMe := hid hM
  have hs := intsAt_new w1 3 [0, 1, 2] (by decide)
  have hb2 : Below w1.heap.size w1 (w1.alloc (.cells #[.int .i64 0, .int .i64 1, .int .i64 2] 3)) := (Below.refl _ _).alloc (Nat.le_refl _) _
  obtain ⟨W2, hW2⟩ : ∃ W2 : World, W2 = w1.alloc (.cells #[.int .i64 0, .int .i64 1, .int .i64 2] 3) := ⟨_, rfl⟩
  have hs2 : IntsAt W2 ⟨some ⟨w1.heap.size, 0, none⟩, 3, [0, 1, 2]⟩ := by rw [hW2]; exact hs
  have hb12 : Below w1.heap.size w1 W2 := by rw [hW2]; exact hb2
  have hbW2 := hb1.trans (hb12.mono hb1.size)
  have HW2 := hid hW2
  have HbW2 := hid hbW2
  have HP := hid (show Calls Tryz.prog 24 #[.slice (some ⟨w1.heap.size, 0, none⟩) 3 3, .int .i64 4] W2 (fun e w' => ∃ v, e = .returned (.tuple #[v, .nilIface]) ∧ Ow Pt.cells 2 W2.heap.size 92 w' v (ptsC [0, 1, 2] 4) ∧ Below W2.heap.size W2 w') from (rpoints_any ⟨some ⟨w1.heap.size, 0, none⟩, 3, [0, 1, 2]⟩ 4 W2 hs2 ⟨Nat.le_refl 3, by show 3 ≤ maxLen; unfold maxLen; omega⟩ (HT.out.belowS hbW2)).mono (fun e w' h => by
    obtain ⟨v, h1, h2, h3⟩ := h
    rw [show (⟨some ⟨w1.heap.size, 0, none⟩, 3, [0, 1, 2]⟩ : SlV Int).xs = [0, 1, 2] from rfl, ptsE3] at h1 h2
    exact ⟨v, h1, h2, h3⟩))
  have HM2 := hid ((hM.belowS hb12).less (A' := fun _ => False) (fun _ h => h.elim))
  clear hb1 hM hs hb2 hs2 hb12 hbW2 hW2 hR
  go_upto_region 4 with fail
  go_wp2_with (rw [← HW2.out])
  refine HP.out.mono ?_
  rintro e w3 ⟨v, rfl, hO, hb3⟩
  obtain ⟨A, c, rfl, _⟩ := hO.form
  have HO := hid hO
  generalize (ptsC [0, 1, 2] 4).length = N at *
  have Hb3 := hid hb3
  have HM3 := hid (HM2.out.belowS hb3)
  clear hO hb3
  go_wp2_with fail
  go_ret2
  have hz3 := Hb3.out.size
  have hzW := HbW2.out.size
  have hb4 : Below w3.heap.size w3 (w3.alloc (.cells #[.pointer (some ⟨m, 0, none⟩), .slice A N c] 72)) := (Below.refl _ _).alloc (Nat.le_refl _) _
  exact ⟨w3.heap.size, rfl, ⟨m, .slice A N c, Blk.new _ _ _, ⟨HM3.out.belowS hb4, fun _ h => h.elim⟩, ⟨(HO.out.belowS hb4).mono (by omega), fun _ _ h => h, fun h => h⟩, by rw [World.size_alloc]; omega, rfl⟩, (HbW2.out.trans (Hb3.out.mono hzW)).trans (hb4.mono (by omega))⟩
/-- a desk apart from blocks that were laid behind it -/
def DeskV (Z : Nat → Prop) (base : Nat) (w : World) (d : Nat) (S : RSt) : Prop :=
  ∃ m v, Blk w d 72 #[.pointer (some ⟨m, 0, none⟩), v] ∧ MeshW base w m S.D S.C Z ∧ PtZ Z w d v ∧ base ≤ w.heap.size ∧ S.C.length = 3
theorem DeskW.avoid {Z : Nat → Prop} {base d : Nat} {w W : World} {S : RSt} (h : DeskW (fun _ => False) base w d S) (hb : Below w.heap.size w W) (hZ : ∀ i, Z i → w.heap.size ≤ i) : DeskV Z base W d S := by
  obtain ⟨m, v, h1, ⟨⟨s, g, vs, q, a1, a2, -⟩, -⟩, h3, h4, h5⟩ := h
  refine ⟨m, v, h1.belowS hb, ⟨s, g, vs, q, a1.belowS hb, a2, fun i hi hz => ?_⟩, ⟨h3.1.belowS hb, fun g hg hz => ?_, fun hz => ?_⟩, Nat.le_trans h4 hb.size, h5⟩
  · have := (a1.part hi).2
    have := hZ i hz
    omega
  · have := (h3.1.lt hg).2
    have := hZ g hz
    omega
  · have := h1.lt
    have := hZ d hz
    omega
theorem DeskV.fr {Z : Nat → Prop} {base d : Nat} {w w' : World} {S : RSt} {F : Nat → Prop} (h : DeskV Z base w d S) (hF : Fr F w w') (hZ : ∀ i, F i → Z i) : DeskV Z base w' d S := by
  obtain ⟨m, v, h1, h2, h3, h4, h5⟩ := h
  exact ⟨m, v, h1.fr hF (fun h => h3.2.2 (hZ _ h)), h2.fr hF hZ, ⟨h3.1.fr hF (fun g hg h => h3.2.1 g hg (hZ _ h)), h3.2⟩, Nat.le_trans h4 hF.size, h5⟩
theorem DeskV.desk {Z : Nat → Prop} {base d : Nat} {w : World} {S : RSt} (h : DeskV Z base w d S) (hZ : ∀ i, Z i → i < w.heap.size) : DeskW Z base w d S := by
  obtain ⟨m, v, h1, h2, h3, h4, h5⟩ := h
  exact ⟨m, v, h1, ⟨h2, hZ⟩, h3, h4, h5⟩
theorem DeskW.deskV {Z : Nat → Prop} {base d : Nat} {w : World} {S : RSt} (h : DeskW Z base w d S) : DeskV Z base w d S := by
  obtain ⟨m, v, h1, h2, h3, h4, h5⟩ := h
  exact ⟨m, v, h1, h2.1, h3, h4, h5⟩
end Go.Proofs.YtemhdfodghfkfaaGreatDoor
namespace Go.Proofs.YtemhdfodghfkfaaGreatDoor
open Go.RowKit
open Go.ChangeShapes Go.WideShapes Go.ChangeAt

/-- .. that holds these bytes, its row from R on -/
def BldR (R b : Nat) (l : Tx) (w : World) : Prop := ∃ p v, w.heap[b]? = some (.cells #[p, v] 45 (0, 0)) ∧ (p = .pointer none ∨ p = .pointer (some ⟨b, 0, none⟩)) ∧ w.ownsRow R 5 1 v (Lib.byteCells l).length (Lib.byteCells l) ∧ v.ownBlock ≠ some b
theorem ownsRow_mono {R B : Nat} {w : World} {e : TypeId} {sz n : Nat} {v : Value} {xs : List Value} (h : w.ownsRow R e sz v n xs) (hB : B ≤ R) : w.ownsRow B e sz v n xs :=
  ⟨h.1, h.2.imp (fun h => h) (fun ⟨g, cap, cur, e1, e2, e3⟩ => ⟨g, cap, cur, e1, Nat.le_trans hB e2, e3⟩)⟩
theorem BldR.at {R b : Nat} {l : Tx} {w : World} (h : BldR R b l w) (hbR : b ≤ R) : BldAt b b l w := by
  obtain ⟨p, v, h1, hp, h2, h3⟩ := h
  rcases hp with rfl | rfl
  · exact .inl ⟨Nat.le_refl _, v, h1, ownsRow_mono h2 hbR, h3⟩
  · exact .inr ⟨Nat.le_refl _, v, h1, ownsRow_mono h2 hbR, h3⟩
theorem BldR.fr {R b : Nat} {l : Tx} {w w' : World} {S : Nat → Prop} (h : BldR R b l w) (hF : Fr S w w') (hb : ¬ S b) (hS : ∀ i, SB w i → R ≤ i → ¬ S i) : BldR R b l w' := by
  obtain ⟨p, v, h1, hp, ⟨h2, h3⟩, h4⟩ := h
  have hB : Blk w b 45 #[p, v] := h1
  refine ⟨p, v, (hF.block b hB.lt hb).trans h1, hp, ⟨h2, ?_⟩, h4⟩
  rcases h3 with h3 | ⟨g, cap, cur, e1, e2, e3, e4⟩
  · exact .inl h3
  · have hG : Blk w g 5 cur := e3
    exact .inr ⟨g, cap, cur, e1, e2, (hF.block g hG.lt (hS g ⟨_, _, e3, .inr rfl⟩ e2)).trans e3, e4⟩
theorem BldR.new (R : Nat) (w : World) : BldR R w.heap.size [] (w.alloc (.cells #[.pointer none, .slice none 0 0] 45)) :=
  ⟨_, _, heap_alloc_new w _, .inl rfl, World.ownsRow_nil _ _ _ _, by simp [Value.ownBlock]⟩
theorem bcheckR (R b : Nat) (l : Tx) (w : World) (h : BldR R b l w) (hbR : b ≤ R) :
    Calls Tryz.prog 27 #[.pointer (some ⟨b, 0, none⟩)] w fun e w' => e = .returned (.tuple #[]) ∧ (∃ v, w'.heap[b]? = some (.cells #[.pointer (some ⟨b, 0, none⟩), v] 45 (0, 0)) ∧ w'.ownsRow R 5 1 v (Lib.byteCells l).length (Lib.byteCells l) ∧ v.ownBlock ≠ some b) ∧ Below b w w' ∧ Fr (fun i => i = b) w w' := by
  have hat := h.at hbR
  obtain ⟨p, v, h1, hp, ⟨h2, h3⟩, h4⟩ := h
  have hB : Blk w b 45 #[p, v] := h1
  rcases hp with rfl | rfl
  · have hb0 : Lib.BuilderAt 45 5 b b (.pointer none) (Lib.byteCells l) w := ⟨Nat.le_refl _, v, h1, ownsRow_mono ⟨h2, h3⟩ hbR, h4⟩
    refine (check_fresh b w hb0.cell0 hb0.shape hb0.frozen0).mono ?_
    rintro e w' ⟨rfl, rfl⟩
    have hB2 : Blk (w.setCell ⟨b, 0, none⟩ (.pointer (some ⟨b, 0, none⟩))) b 45 #[.pointer (some ⟨b, 0, none⟩), v] := hB.put 0 _
    refine ⟨rfl, ⟨v, hB2, ⟨h2, ?_⟩, h4⟩, (Below.refl b w).setCell (p := ⟨b, 0, none⟩) (Nat.le_refl _) _, (Fr.refl (fun i => i = b) w).setCell (p := ⟨b, 0, none⟩) (.inl rfl) _⟩
    rcases h3 with h3 | ⟨g, cap, cur, e1, e2, e3, e4⟩
    · exact .inl h3
    · have hgb : g ≠ b := fun e => h4 (by rw [e1, e]; rfl)
      exact .inr ⟨g, cap, cur, e1, e2, (Below.heap_setCell w ⟨b, 0, none⟩ _ g hgb).trans e3, e4⟩
  · refine (check_used b w (hB.cell 0)).mono ?_
    rintro e w' ⟨rfl, rfl⟩
    exact ⟨rfl, ⟨v, h1, ⟨h2, h3⟩, h4⟩, Below.refl _ _, Fr.refl _ _⟩
theorem BldR.sb {R b : Nat} {l : Tx} {w : World} (h : BldR R b l w) : SB w b := by
  obtain ⟨p, v, h1, -⟩ := h
  exact ⟨_, _, h1, .inl rfl⟩
set_option maxHeartbeats 2000000 in
set_option maxRecDepth 100000 in
theorem write_bldR (R b : Nat) (l m : Tx) (w : World) (h : BldR R b l w) (hbR : b ≤ R) (hl : l.length ≤ 100000000) (hm : m.length ≤ 100000000) (hBw : R ≤ w.heap.size) :
    Calls Tryz.prog 12 #[.pointer (some ⟨b, 0, none⟩), .string (mkB m)] w fun e w' => (∃ v, e = .returned v) ∧ BldR R b (l ++ m) w' ∧ Below b w w' ∧ Fr (fun i => SB w i ∧ (i = b ∨ R ≤ i)) w w' := by
  obtain ⟨i0, hi, hz0, hz1, hz2⟩ := info_parts infoB8
  have hms := mkB_size m
  have hbc := byteCells_app l m
  have HC := hid (bcheckR R b l w h hbR)
  have Hsb := hid h.sb
  have hls := Lib.byteCells_length l
  generalize Lib.byteCells l = bs at *
  generalize hs : mkB m = s at *
  go_enter Tryz.func12, Tryz.ntmps12
  go_wp2_with fail
  refine HC.out.mono ?_
  rintro e w1 ⟨rfl, h1, hb1, hf1⟩
  obtain ⟨v, hbk, hown, hne⟩ := h1
  have hSv : ∀ k, v.ownBlock = some k → SB w k ∨ w.heap.size ≤ k := fun k hk => by
    by_cases hlt : k < w.heap.size
    · refine .inl ?_
      have he := hf1.block k hlt (fun e => hne (by rw [hk, e]))
      rcases hown.2 with ⟨hv, _⟩ | ⟨g, cap, cur, hv, _, e3, _⟩
      · rw [hv] at hk; cases hk
      · rw [hv] at hk
        injection hk with hk
        have hgk : g = k := hk
        subst hgk
        exact ⟨_, _, he.symm.trans e3, .inr rfl⟩
    · exact .inr (by omega)
  have c0 : w1.cell? ⟨b, 0, none⟩ = some (.pointer (some ⟨b, 0, none⟩)) := by rw [Lib.cell_of_heap hbk]; rfl
  have c1 : w1.cell? ⟨b, 1, none⟩ = some v := by rw [Lib.cell_of_heap hbk]; rfl
  go_wp2_with (at_builtin; refine Lib.wpList_append_own_string _ rfl _ _ 43 9 rfl R 5 i0 Tryz.underlying43 Tryz.underlying9 hi hz0 hz1 hz2 _ _ _ rfl hown s rfl ?c3 ?c4 ?c5 ?_)
  case c3 => unfold maxLen; omega
  case c4 => omega
  case c5 => have := hb1.size; omega
  intro v' w2 hown' hgrow _
  have hlt : b < w1.heap.size := by
    rcases Nat.lt_or_ge b w1.heap.size with h' | h'
    · exact h'
    · simp [Array.getElem?_eq_none h'] at hbk
  have hb2 : w2.heap[b]? = some (.cells #[.pointer (some ⟨b, 0, none⟩), v] 45 (0, 0)) := by
    rw [hgrow.block b hlt (fun e => hne e.symm)]
    exact hbk
  have d0 : w2.cell? ⟨b, 0, none⟩ = some (.pointer (some ⟨b, 0, none⟩)) := by rw [Lib.cell_of_heap hb2]; rfl
  have d1 : w2.cell? ⟨b, 1, none⟩ = some v := by rw [Lib.cell_of_heap hb2]; rfl
  have f1 : w2.frozen? ⟨b, 1, none⟩ = false := Lib.frozen_of_heap hb2 1
  obtain ⟨ao, n', cap, rfl⟩ : ∃ ao n' cap, v' = .slice ao n' cap := by
    rcases hown'.2 with ⟨hv, _⟩ | ⟨g, cap, cur, hv, _⟩
    · exact ⟨_, _, _, hv⟩
    · exact ⟨_, _, _, hv⟩
  have hput : BldR R b (l ++ m) (w2.setCell ⟨b, 1, none⟩ (.slice ao n' cap)) := by
    have hbb : Blk w2 b 45 #[.pointer (some ⟨b, 0, none⟩), v] := hb2
    have hbb2 : Blk (w2.setCell ⟨b, 1, none⟩ (.slice ao n' cap)) b 45 #[.pointer (some ⟨b, 0, none⟩), .slice ao n' cap] := hbb.put 1 _
    have hlen : (Lib.byteCells (l ++ m)).length = l.length + m.length := by rw [Lib.byteCells_length, List.length_append]
    have hne2 : (Value.slice ao n' cap).ownBlock ≠ some b := fun e => by
      rcases hown'.2 with ⟨hv, _⟩ | ⟨g, cap2, cur, hv, _, e3, _⟩
      · rw [hv] at e; cases e
      · rw [hv] at e
        injection e with e
        have hgb : g = b := e
        subst hgb
        rw [hb2] at e3
        injection e3 with e3
        injection e3 with _ e4
        exact absurd e4 (by decide)
    refine ⟨_, _, hbb2, .inr rfl, ?_, hne2⟩
    rw [hlen]
    obtain ⟨g1, g2⟩ := hown'
    refine ⟨g1, ?_⟩
    rcases g2 with g2 | ⟨g, cap2, cur, e1, e2, e3, e4⟩
    · exact .inl g2
    · refine .inr ⟨g, cap2, cur, e1, e2, ?_, e4⟩
      have hgb : g ≠ b := fun e => hne2 (by rw [e1, e]; rfl)
      exact (Below.heap_setCell w2 ⟨b, 1, none⟩ _ g hgb).trans e3
  have hbl : Below b w (w2.setCell ⟨b, 1, none⟩ (.slice ao n' cap)) := (hb1.grown hgrow (by have := hb1.size; omega) (fun k hk => Nat.le_trans hbR (hown.lt k hk).1)).setCell (p := ⟨b, 1, none⟩) (Nat.le_refl _) _
  have HFr := hid (show Fr (fun i => SB w i ∧ (i = b ∨ R ≤ i)) w (w2.setCell ⟨b, 1, none⟩ (.slice ao n' cap)) from ((hf1.mono (fun i _ (hi : i = b) => ⟨hi ▸ Hsb.out, .inl hi⟩)).grown hgrow (fun k hk => (hSv k hk).imp (fun h => ⟨h, .inr (hown.lt k hk).1⟩) (fun h => h))).setCell (p := ⟨b, 1, none⟩) (.inl ⟨Hsb.out, .inl rfl⟩) _)
  have HP := hid hput
  have HB := hid hbl
  have Hbc := hid hbc
  clear hput hbl hown hown' hgrow hbk hbc hSv hf1
  go_wp2_with fail
  go_ret2
  refine ⟨⟨_, rfl⟩, ?_, HB.out, HFr.out⟩
  exact HP.out
end Go.Proofs.YtemhdfodghfkfaaGreatDoor
namespace Go.Proofs.YtemhdfodghfkfaaGreatDoor
open Go Go.RowKit

theorem nameE_len (e : Int) : (nameE e).length ≤ 10 := by
  unfold nameE
  repeat' split
  all_goals decide
theorem toldT_len (r : Int × Int) : (toldT r).length ≤ 10 := by
  unfold toldT
  split
  · have := (digN_len r.1.toNat).2; omega
  · exact nameE_len _
theorem entT_len {x : E} (h : EntOk x) : (entT x).length ≤ 3020 := by
  have h1 := (digN_len x.ver.toNat).2
  have h2 := (digN_len x.asof.toNat).2
  have h3 := h.2.2.2.2
  have h5 := Lib.size_eq x.text
  unfold entT
  simp only [List.length_append, List.length_cons, List.length_nil]
  split
  · show _ + 1 + (_ + (0 + 1 + 4)) ≤ _
    omega
  · omega
theorem act_len {S : RSt} (hD : Deeds S.D) (hC : ∀ c ∈ S.C, CacheD S.D c) (wd : Tx) (n : List Nat) (t : Tx) : (S.act wd n t).1.length ≤ 4000 := by
  unfold RSt.act
  split
  · exact Nat.le_trans (toldT_len _) (by decide)
  split
  · exact Nat.le_trans (toldT_len _) (by decide)
  split
  · show List.length (if _ then _ else _) ≤ _
    split
    · have := entT_len (entOk_get hD hC (n.getD 0 0) (n.getD 1 0) (n.getD 2 0)).1
      rw [List.length_append]
      have h7 : (if (mgetR S.D S.C (n.getD 0 0) (n.getD 1 0) (n.getD 2 0)).1.2.1 = true then cachedT else []).length ≤ 7 := by split <;> decide
      omega
    · exact Nat.le_trans (nameE_len _) (by decide)
  split
  · show List.length (if _ then _ else _) ≤ _
    split
    · decide
    · exact Nat.le_trans (nameE_len _) (by decide)
  split
  · show List.length (if _ then _ else _) ≤ _
    split
    · rename_i hi
      obtain ⟨i0, i1⟩ := inM_true.1 hi
      have hc := hC (S.C.getD (n.getD 0 0) []) (by rw [getD_get _ (show n.getD 0 0 < S.C.length by omega)]; exact List.getElem_mem _)
      have h8 := (chkC_ok hc.1).1
      have hk := keysT_len (S.C.getD (n.getD 0 0) [])
      unfold cacheT
      split
      · decide
      · omega
    · exact Nat.le_trans (nameE_len _) (by decide)
  split
  · show List.length (if _ then _ else _) ≤ _
    split
    · have := (digN_len (ringO (n.getD 0 0)).toNat).2
      omega
    · exact Nat.le_trans (nameE_len _) (by decide)
  · show List.length (digN S.D.length) ≤ _
    have := (digN_len S.D.length).2
    omega
theorem line_len {S : RSt} (hD : Deeds S.D) (hC : ∀ c ∈ S.C, CacheD S.D c) (l : Tx) : (S.line l).1.length ≤ 4000 := by
  unfold RSt.line
  split
  · show badT.length ≤ _
    decide
  · exact act_len hD hC _ _ _
theorem cutN_len (x : Tx) : (cutN x).length ≤ x.length := by
  unfold cutN
  split
  · rw [List.length_dropLast]; omega
  · exact Nat.le_refl _
theorem linesGo_len : ∀ (l cur : Tx), ∀ p ∈ linesGo cur l, p.length ≤ cur.length + l.length
  | [], cur, p, hp => by
    unfold linesGo at hp
    split at hp
    · cases hp
    · rw [List.mem_singleton.1 hp]; simp
  | b :: l, cur, p, hp => by
    rw [linesGo] at hp
    split at hp
    · rcases List.mem_cons.1 hp with rfl | hp
      · simp only [List.length_append, List.length_cons, List.length_nil]; omega
      · have := linesGo_len l [] p hp
        simp only [List.length_cons, List.length_nil] at this ⊢; omega
    · have := linesGo_len l _ p hp
      simp only [List.length_append, List.length_cons, List.length_nil] at this ⊢; omega
theorem linesGo_many : ∀ (l cur : Tx), (linesGo cur l).length ≤ l.length + 1
  | [], cur => by
    unfold linesGo
    split
    · exact Nat.zero_le _
    · exact Nat.le_refl _
  | b :: l, cur => by
    rw [linesGo]
    split
    · have := linesGo_many l []
      simp only [List.length_cons]; omega
    · have := linesGo_many l (cur ++ [b])
      simp only [List.length_cons]; omega
theorem tyBld : ¬ MTy 45 := by unfold MTy; decide
theorem tyU8 : ¬ MTy 5 := by unfold MTy; decide
theorem SB.keep {Z : Nat → Prop} {w : World} {i : Nat} (h : SB w i) : TyA Z w i := by
  obtain ⟨T, cur, hB, rfl | rfl⟩ := h
  · exact tyA_of hB tyBld
  · exact tyA_of hB tyU8
theorem tyPD : ¬ MTy 37 := by unfold MTy; decide
theorem SB.not {w : World} {i : Nat} {T : TypeId} {cur : Array Value} (hB : Blk w i T cur) (h1 : T ≠ 45) (h2 : T ≠ 5) : ¬ SB w i := fun ⟨T', cur', hB', h⟩ => by
  have := (hB.eq_ hB').2
  subst this
  exact h.elim h1 h2
/-- a builder's write leaves the desk as it is -/
theorem DeskW.frSB {Z : Nat → Prop} {base d : Nat} {w w' : World} {S : RSt} {F : Nat → Prop} (h : DeskW Z base w d S) (hF : Fr F w w') (hS : ∀ i, F i → SB w i) : DeskW Z base w' d S := by
  obtain ⟨m, v, h1, h2, h3, h4, h5⟩ := h
  refine ⟨m, v, h1.fr hF (fun h => SB.not h1 (by decide) (by decide) (hS _ h)), h2.of hF.size (h2.free.fr hF (fun i hi => (hS i hi).keep)) (fun _ h => h), ⟨h3.1.fr hF (fun g hg hs => ?_), h3.2⟩, Nat.le_trans h4 hF.size, h5⟩
  obtain ⟨cur, hB⟩ := h3.1.typ hg
  exact SB.not hB (by decide) (by decide) (hS g hs)
end Go.Proofs.YtemhdfodghfkfaaGreatDoor
