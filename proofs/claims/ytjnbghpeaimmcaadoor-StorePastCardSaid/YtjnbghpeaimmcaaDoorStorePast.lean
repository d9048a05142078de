/-
  PROVED HERE: merelaw1.StorePast returns true: what was is never otherwise. CONDITIONS: errors.errorType as the program's text lays it (tied by the card).
-/
import Derived.Test.YtjnbghpeaimmcaaDoorStoreR
import Derived.Test.YtjnbghpeaimmcaaDoorDoor
import Derived.Deep.RegionLaw
import Derived.Deep.DeepCutAuto
import Derived.Test.YtjnbghpeaimmcaaDoorBoxR
namespace Go.Proofs.YtjnbghpeaimmcaaDoor
open Go.RowKit
open Go.ChangeShapes Go.WideShapes Go.ChangeAt

theorem lastC_mid (l : List Ch) (q s : Int) (h1 : (lastC l q).seq ≤ s) (h2 : s ≤ q) : lastC l s = lastC l q := by
  refine snoc_ind (P := fun l => (lastC l q).seq ≤ s → lastC l s = lastC l q) l (fun _ => rfl) (fun l c ih h => ?_) h1
  rw [lastC_snoc, lastC_snoc]
  rw [lastC_snoc] at h
  by_cases hc : c.seq ≤ q
  · rw [if_pos hc] at h ⊢
    rw [if_pos h]
  · rw [if_neg hc] at h ⊢
    rw [if_neg (by omega), ih h]
/-- what each deed of a row wrote -/
def DOk (D : List E) : Prop := ∀ e ∈ D, e.text.size ≤ 12 ∧ (e.gone = true → e.text.toList = [])
theorem DOk.snoc {D : List E} {e : E} (h : DOk D) (h1 : e.text.size ≤ 12) (h2 : e.gone = true → e.text.toList = []) : DOk (D ++ [e]) := fun y hy => by
  rcases List.mem_append.1 hy with hy | hy
  · exact h y hy
  · rw [List.mem_singleton.1 hy]; exact ⟨h1, h2⟩
theorem refC_ok {D : List E} (k : Int) (h : DOk D) : 0 ≤ (refC D k).seq ∧ (refC D k).seq ≤ (D.length : Int) ∧ (refC D k).text.size ≤ 12 ∧ ((refC D k).gone = true → (refC D k).text.toList = []) := by
  refine snoc_ind (P := fun D => DOk D → 0 ≤ (refC D k).seq ∧ (refC D k).seq ≤ (D.length : Int) ∧ (refC D k).text.size ≤ 12 ∧ ((refC D k).gone = true → (refC D k).text.toList = [])) D (fun _ => ⟨(show (0 : Int) ≤ 0 by decide), (show (0 : Int) ≤ 0 by decide), (show (0 : Nat) ≤ 12 by decide), fun _ => (show (ByteArray.mk #[]).toList = [] by simp)⟩) (fun D e ih h => ?_) h
  have := ih (fun y hy => h y (by simp [hy]))
  have he := h e (by simp)
  rw [refC_snoc, List.length_append, List.length_singleton]
  split
  · exact ⟨by simp only; omega, by simp only; omega, he.1, he.2⟩
  · exact ⟨this.1, by omega, this.2.2⟩
/-- a deed leaves a row as it is, or writes one more -/
def Next (D D' : List E) : Prop := D' = D ∨ ∃ e : E, D' = D ++ [e] ∧ e.text.size ≤ 12 ∧ (e.gone = true → e.text.toList = [])
theorem Next.ok {D D' : List E} (h : Next D D') (hD : DOk D) : DOk D' := by
  rcases h with rfl | ⟨e, rfl, h1, h2⟩
  · exact hD
  · exact hD.snoc h1 h2
theorem rdone_next (D : List E) (e : E) (h1 : e.text.size ≤ 12) (h2 : e.gone = true → e.text.toList = []) : Next D (rdone D e).2 := by
  unfold rdone
  split
  · exact .inl rfl
  · exact .inr ⟨e, rfl, h1, h2⟩
theorem rput_next (D : List E) (key : Int) (t : ByteArray) : Next D (rput D key t).2 := by
  unfold rput
  split
  · split
    · exact .inl rfl
    · exact rdone_next _ _ (by simp only; omega) (fun h => by cases h)
  · exact .inl rfl
theorem rdel_next (D : List E) (key : Int) : Next D (rdel D key).2 := by
  unfold rdel
  split
  · split
    · exact .inl rfl
    · exact rdone_next _ _ (show (0 : Nat) ≤ 12 by decide) (fun _ => (show (ByteArray.mk #[]).toList = [] by simp))
  · exact .inl rfl
/-- an entry of a time -/
def PastOk (D : List E) (p : E) : Prop := ∃ (k : Int) (q : Nat), keyB k = true ∧ q ≤ D.length ∧ p = entC k q (lastC (chsOf D k) q)
theorem PastOk.next {D D' : List E} {p : E} (h : PastOk D p) (hn : Next D D') : PastOk D' p := by
  rcases hn with rfl | ⟨e, rfl, _, _⟩
  · exact h
  · obtain ⟨k, q, hk, hq, rfl⟩ := h
    refine ⟨k, q, hk, by rw [List.length_append]; omega, ?_⟩
    rw [lastC_take D k q hq, lastC_take (D ++ [e]) k q (by rw [List.length_append]; omega), List.take_append_of_le_length hq]
theorem atS_past {D : List E} {k q : Int} (hk : keyB k = true) (h0 : 0 ≤ q) (hq : q ≤ (D.length : Int)) : atS (lsOf D) D.length k q = (entC k q (lastC (chsOf D k) q), 0) := by
  obtain ⟨k0, k8⟩ := keyB_true.1 hk
  rw [atS, if_pos ⟨hk, h0, hq⟩, lsOf_get D _ (by omega), show ((k.toNat : Nat) : Int) = k by omega]
theorem past_ok {D : List E} {k : Int} {q : Nat} (hD : DOk D) (hl : D.length ≤ 1000) (hk : keyB k = true) (hq : q ≤ D.length) :
    chk (entC k q (lastC (chsOf D k) q)) = 0 ∧ 0 ≤ (lastC (chsOf D k) q).seq ∧ (lastC (chsOf D k) q).seq ≤ (q : Int) := by
  have h := refC_ok k (D := D.take q) (fun y hy => hD y (List.mem_of_mem_take hy))
  rw [← lastC_take D k q hq, List.length_take] at h
  have h2 : (lastC (chsOf D k) q).seq ≤ (q : Int) := by omega
  exact ⟨chk_zero.2 ⟨hk, seqB_true.2 (by simp only [entC]; omega), seqB_true.2 (by simp only [entC]; omega), h2, h.2.2.1, h.2.2.2⟩, h.1, h2⟩
theorem past_before {D : List E} {k : Int} {q : Int} (h : 0 < (lastC (chsOf D k) q).seq) : (lastC (chsOf D k) ((lastC (chsOf D k) q).seq - 1)).seq < (lastC (chsOf D k) q).seq := by
  rcases lastC_mem (chsOf D k) ((lastC (chsOf D k) q).seq - 1) with h1 | ⟨_, h2⟩
  · rw [h1]; exact h
  · omega

/-- the entries of the past, and the store -/
def PS (B : Nat) (w : World) (v : Value) (D P : List E) : Prop :=
  ∃ vs, Ow E.cells 5 B 45 w v P ∧ (∀ p ∈ P, PastOk D p) ∧ DOk D ∧ StoreO B w B vs (lsOf D) D.length ∧ StP (lsOf D) D.length ∧ ∀ i, FS B vs i → foot v ≠ some i
theorem PS.belowS {B : Nat} {w w' : World} {v : Value} {D P : List E} (h : PS B w v D P) (hb : Below w.heap.size w w') : PS B w' v D P := by
  obtain ⟨vs, h1, h2, h3, h4, h5, h6⟩ := h
  exact ⟨vs, h1.belowS hb, h2, h3, h4.belowS hb, h5, h6⟩
theorem chk_good {e : E} (h : chk e = 0) : e.good := by
  obtain ⟨h1, h2, h3, _, h5, _⟩ := chk_zero.1 h
  have := keyB_true.1 h1
  have := seqB_true.1 h2
  have := seqB_true.1 h3
  exact ⟨by omega, by omega, by omega, by unfold maxLen; omega⟩
theorem PS.good {B : Nat} {w : World} {v : Value} {D P : List E} (h : PS B w v D P) : ∀ p ∈ P, p.good := fun p hp => by
  obtain ⟨vs, _, h2, h3, _, h5, _⟩ := h
  obtain ⟨k, q, hk, hq, rfl⟩ := h2 p hp
  have := h5.hi
  exact chk_good (past_ok h3 (by omega) hk hq).1
/-- what a region keeps: what was there, and two cells of it -/
theorem keep2_alloc {w0 W : World} {p1 p2 : Addr} {v1 v2 : Value} (o : Obj) (l1 : p1.block < w0.heap.size) (l2 : p2.block < w0.heap.size) (h : Below w0.heap.size w0 W ∧ W.cell? p1 = some v1 ∧ W.cell? p2 = some v2) : Below w0.heap.size w0 (W.alloc o) ∧ (W.alloc o).cell? p1 = some v1 ∧ (W.alloc o).cell? p2 = some v2 :=
  ⟨h.1.alloc h.1.size o, (World.cell?_alloc_lt W o p1 (Nat.lt_of_lt_of_le l1 h.1.size)).trans h.2.1, (World.cell?_alloc_lt W o p2 (Nat.lt_of_lt_of_le l2 h.1.size)).trans h.2.2⟩
theorem keep2_below {w0 W : World} {p1 p2 : Addr} {v1 v2 : Value} (l1 : p1.block < w0.heap.size) (l2 : p2.block < w0.heap.size) (c1 : w0.cell? p1 = some v1) (c2 : w0.cell? p2 = some v2) (h : Below w0.heap.size w0 W) : Below w0.heap.size w0 W ∧ W.cell? p1 = some v1 ∧ W.cell? p2 = some v2 :=
  ⟨h, (h.cell l1).trans c1, (h.cell l2).trans c2⟩
def pl1 : List (List Ch) := (List.replicate 8 []).set 3 [⟨1, false, ⟨#[120]⟩⟩]
def pl2 : List (List Ch) := (List.replicate 8 []).set 3 [⟨1, false, ⟨#[120]⟩⟩, ⟨2, false, ⟨#[121]⟩⟩]
theorem pl_f1 : sput (List.replicate 8 []) 0 3 ⟨#[120]⟩ = ((1, 0), pl1, 1) := rfl
theorem pl_f2 : sswap pl1 1 3 1 ⟨#[121]⟩ = ((2, 0), pl2, 2) := rfl
theorem pl_f3 : sswap pl2 2 3 1 ⟨#[122]⟩ = ((0, 7), pl2, 2) := rfl
theorem pl_f4 : atS pl2 2 3 1 = (⟨3, 1, 1, false, ⟨#[120]⟩⟩, 0) := rfl

set_option maxHeartbeats 100000000 in
set_option maxRecDepth 100000 in
theorem storePast_any (st : SlV (SlV Int)) (tx : SlV ByteArray) (w : World) (hst : IntssAt w st) (htx : StrsAt w tx) (hgl : Gl w) :
    Calls Tryd.prog 4 #[.slice st.A st.xs.length st.c, .slice tx.A tx.xs.length tx.c] w fun e w' => e = .returned (.bool true) ∧ Below w.heap.size w w' := by
  have hg0 := hgl.lt
  have hlen := hst.len
  have hlent := htx.len
  unfold maxLen at hlen hlent
  go_enter Tryd.func4, Tryd.ntmps4
  go_wp2_with fail
  refine (snew_any _).mono ?_
  rintro e w1 ⟨rfl, hO1, hb1⟩
  have HO1 := hid hO1
  have Hb1 := hid hb1
  clear hO1 hb1
  go_wp2_with fail
  refine (sput_any w.heap.size w.heap.size 3 ⟨#[120]⟩ (show (1 : Nat) ≤ maxLen by unfold maxLen; decide) _ _ 0 _ HO1.out StP.new).mono ?_
  rw [pl_f1]
  rintro e w2 ⟨vs2, rfl, hO2, hP2, hF2, hf2⟩
  simp only [errV_zero]
  have Hb2 := hid (Hb1.out.trans (hF2.below0 Hb1.out.size (fun i hi => (HO1.out.fsl hi).1)))
  have HO2 := hid hO2
  have HP2 := hid hP2
  clear hO2 hP2 hF2 hf2
  go_wp2_with fail
  refine (sswap_any w.heap.size w.heap.size 3 1 ⟨#[121]⟩ (show (1 : Nat) ≤ maxLen by unfold maxLen; decide) vs2 pl1 1 _ HO2.out HP2.out).mono ?_
  rw [pl_f2]
  rintro e w3 ⟨vs3, rfl, hO3, hP3, hF3, hf3⟩
  simp only [errV_zero]
  have Hb3 := hid (Hb2.out.trans (hF3.below0 Hb2.out.size (fun i hi => (HO2.out.fsl hi).1)))
  have HO3 := hid hO3
  have HP3 := hid hP3
  clear hO3 hP3 hF3 hf3
  go_wp2_with fail
  refine (sswap_any w.heap.size w.heap.size 3 1 ⟨#[122]⟩ (show (1 : Nat) ≤ maxLen by unfold maxLen; decide) vs3 pl2 2 _ HO3.out HP3.out).mono ?_
  rw [pl_f3]
  rintro e w4 ⟨vs4, rfl, hO4, hP4, hF4, hf4⟩
  simp only []
  rw [errV_ne (show (7 : Int) ≠ 0 by decide)]
  have Hb4 := hid (Hb3.out.trans (hF4.below0 Hb3.out.size (fun i hi => (HO3.out.fsl hi).1)))
  have HO4 := hid hO4
  have HP4 := hid hP4
  clear hO4 hP4 hF4 hf4
  go_wp2_with fail
  refine (sAt_any w.heap.size w.heap.size 3 1 vs4 pl2 2 _ HO4.out HP4.out).mono ?_
  rw [pl_f4, errV_zero]
  unfold E.val
  rintro e w5 ⟨rfl, hb5⟩
  have Hb5 := hid (Below.step Hb4.out hb5 Hb4.out.size)
  have hX5 : Blk (w5.alloc (.cells #[.int .i64 3, .int .i64 1, .int .i64 1, .bool false, .string ⟨#[120]⟩] 45)) w5.heap.size 45 #[.int .i64 3, .int .i64 1, .int .i64 1, .bool false, .string ⟨#[120]⟩] := Blk.new _ _ _
  have HX5 := hid hX5
  have Hb5' := hid (show Below w.heap.size w (w5.alloc (.cells #[.int .i64 3, .int .i64 1, .int .i64 1, .bool false, .string ⟨#[120]⟩] 45)) from Hb5.out.alloc Hb5.out.size _)
  have hg5 := hgl.below Hb5'.out hg0
  clear hX5 hb5
  go_wp2_with fail
  refine (error_any 7 7 _ hg5).mono ?_
  rintro e w6 ⟨rfl, hb6⟩
  have hX6 := HX5.out.belowS hb6
  have c1 : w6.cell? ⟨w5.heap.size, 1, none⟩ = some (.int .i64 1) := hX6.cell 1
  have c2 : w6.cell? ⟨w5.heap.size, 2, none⟩ = some (.int .i64 1) := hX6.cell 2
  have c4 : w6.cell? ⟨w5.heap.size, 4, none⟩ = some (.string ⟨#[120]⟩) := hX6.cell 4
  have Hb6 := hid (Below.step Hb5'.out hb6 Hb5'.out.size)
  clear hX6 hg5 hb6
  go_wp2_with fail
  refine (snew_any _).mono ?_
  rintro e w7 ⟨rfl, hO7, hb7⟩
  have h6w : w.heap.size ≤ w6.heap.size := Hb6.out.size
  have Hb7 := hid (Below.step Hb6.out hb7 h6w)
  have HO7 := hid hO7
  clear c1 c2 c4 hO7 hb7
  go_upto_block 0 with fail
  have hPS0 : PS w6.heap.size w7 (.slice none 0 0) [] [] := ⟨_, Ow.nil _ _ _ _ _, (fun p hp => by cases hp), (fun e he => by cases he), by rw [lsOf_nil]; exact HO7.out, by rw [lsOf_nil]; exact StP.new, fun i _ h => by cases h⟩
  have h67 : w6.heap.size < w7.heap.size := HO7.out.lt
  go_cut [15] (fun v wx => ∃ D P : List E, P.length ≤ 40 ∧ PS w6.heap.size wx v D P ∧ Below w.heap.size w wx)
  case first =>
    as_aux_lemma =>
    go_wp2_with fail
    go_loopw [15, 16] (fun v i wr => ∃ (n : Nat) (D P : List E), n ≤ 40 ∧ i = .int .i64 n ∧ P.length ≤ n ∧ PS w6.heap.size wr v D P ∧ Below w.heap.size w wr)
      (fun _ i _ => 40 - (intOf i).toNat)
    case atStart => exact ⟨0, [], [], by omega, rfl, by simp, hPS0, Hb7.out⟩
    case round =>
      obtain ⟨n, D, P, hn, rfl, hPn, hPS, hbr⟩ := hrel
      clear hPS0
      by_cases hn1 : n < st.xs.length
      · by_cases hn2 : n < 40
        · obtain ⟨b, off, hA, hb, hcells⟩ := hst.row (by omega)
          have hcell := hcells n hn1
          have hin := hst.each n hn1
          rw [← hbr.cell (p := ⟨b, off + n, none⟩) hb] at hcell
          have HA := hid hA
          rw [hA]
          generalize hrw : st.xs[n] = rw_ at *
          clear hcells hA
          obtain ⟨wo, rfl⟩ : ∃ wo : World, wo = wr := ⟨_, rfl⟩
          have hzr := hbr.size
          have hVlt : w.heap.size < wo.heap.size := by obtain ⟨_, _, _, _, h, _⟩ := hPS; have := h.lt; omega
          go_upto_block 2 with fail
          go_cut [] (fun wx => ∃ vs : List Int, vs.length = 2 ∧ Blk wx wo.heap.size 53 (ints vs) ∧ Fr (fun x => x = wo.heap.size) (wo.alloc (.cells (ints [0, 0]) 53)) wx)
          case first =>
            have hV0 : Blk (wo.alloc (.cells (ints [0, 0]) 53)) wo.heap.size 53 (ints [0, 0]) := Blk.new _ _ _
            go_wp2_with fail
            go_loopw [18] (fun j w2 => ∃ (m : Nat) (vs : List Int), m ≤ 2 ∧ m ≤ rw_.xs.length ∧ j = .int .i64 m ∧ vs.length = 2 ∧ Blk w2 wo.heap.size 53 (ints vs) ∧ Fr (fun x => x = wo.heap.size) (wo.alloc (.cells (ints [0, 0]) 53)) w2)
              (fun j _ => 2 - (intOf j).toNat)
            case atStart => exact ⟨0, [0, 0], by omega, by omega, rfl, rfl, hV0, Fr.refl _ _⟩
            case round =>
              obtain ⟨m, vs, hm3, hml, rfl, hvl, hVb, hVf⟩ := hrel
              have hcell2 := (hVf.cell (p := ⟨b, off + n, none⟩) (by simp; omega) (by simp; omega)).trans ((World.cell?_alloc_lt wo _ ⟨b, off + n, none⟩ (by simp; omega)).trans hcell)
              by_cases hm1 : m < rw_.xs.length
              · by_cases hm2 : m < 2
                · obtain ⟨b2, off2, hA2, hb2, hcells2⟩ := hin.row (by omega)
                  have hx := hcells2 m hm1
                  have hx2 := (hVf.cell (p := ⟨b2, off2 + m, none⟩) (by simp; omega) (by simp; omega)).trans ((World.cell?_alloc_lt wo _ ⟨b2, off2 + m, none⟩ (by simp; omega)).trans ((hbr.cell (p := ⟨b2, off2 + m, none⟩) hb2).trans hx))
                  rw [hA2] at hcell2
                  generalize rw_.xs.getD m 0 = x at *
                  have hv : _ = some (Value.int .i64 (vs.getD m 0)) := (hVb.cell m).trans (ints_get vs m (by omega))
                  have hvf := hVb.frozen m
                  have hVb' := hVb.put m (.int .i64 x)
                  rw [ints_set] at hVb'
                  have hVf' := Fr.setCell (S := fun x => x = wo.heap.size) hVf (p := ⟨wo.heap.size, m, none⟩) (.inl rfl) (.int .i64 x)
                  have HV := hid (And.intro hVb' hVf')
                  clear hcells2 hA2 hx hVb' hVf'
                  go_wp2_with fail
                  go_roundw
                  case rel => exact ⟨m + 1, _, by omega, by omega, by go_num, by simpa using hvl, HV.out.1, HV.out.2⟩
                  case measure => simp [intOf]; omega
                · go_wp2_with fail
                  go_meet
                  exact ⟨vs, hvl, hVb, hVf⟩
              · go_wp2_with fail
                go_meet
                exact ⟨vs, hvl, hVb, hVf⟩
          case rest =>
            obtain ⟨vv, hvl, hVb, hVf⟩ := hcut
            obtain ⟨x0, x1, rfl⟩ : ∃ x0 x1, vv = [x0, x1] := by
              match vv, hvl with
              | [x0, x1], _ => exact ⟨x0, x1, rfl⟩
            have cv0 : wc.cell? ⟨wo.heap.size, 0, none⟩ = some (.int .i64 x0) := hVb.cell 0
            have cv1 : wc.cell? ⟨wo.heap.size, 1, none⟩ = some (.int .i64 x1) := hVb.cell 1
            have hbo : Below wo.heap.size wo wc := ((Below.refl _ _).alloc (Nat.le_refl _) _).trans (hVf.below (by simp) (fun i hi e => by omega))
            have HTc : Hid (∃ vs, Ow E.cells 5 w6.heap.size 45 wc u15 P ∧ (∀ p ∈ P, PastOk D p) ∧ DOk D ∧ StoreO w6.heap.size wc w6.heap.size vs (lsOf D) D.length ∧ StP (lsOf D) D.length ∧ (∀ i, FS w6.heap.size vs i → foot u15 ≠ some i) ∧ ¬ FS w6.heap.size vs wo.heap.size) := hid (by
              obtain ⟨vs, h1, h2, h3, h4, h5, h6⟩ := hPS
              exact ⟨vs, h1.belowS hbo, h2, h3, h4.belowS hbo, h5, h6, fun h => by have := (h4.fsl h).2; omega⟩)
            have Hbc := hid (show Below w.heap.size w wc from Below.step hbr hbo (by omega))
            have HVb := hid hVb
            clear hVf hcell hin hPS hbr hbo hVb
            go_upto_if 125 with fail
            go_cut [19] (fun t wx => TextV t ∧ wx = wc)
            case first =>
              by_cases hnt : n < tx.xs.length
              · obtain ⟨b2, off2, hA2, hb2, hc2⟩ := htx.row (by omega)
                have hx := (Hbc.out.cell (p := ⟨b2, off2 + n, none⟩) hb2).trans (hc2 n hnt)
                have hxg := htx.each _ (List.getElem_mem hnt)
                have Hxg := hid hxg
                generalize tx.xs[n] = x at *
                have HA2 := hid hA2
                rw [hA2]
                clear hA2 hc2 hxg
                go_wp2_with fail
                rw [← HA2.out]
                go_meet
                exact ⟨⟨x, Hxg.out, rfl⟩, rfl⟩
              · have hnt' : ¬ ((n : Int) < (tx.xs.length : Int)) := by omega
                go_wp2_with fail
                go_meet
                exact ⟨⟨ByteArray.mk #[], Nat.zero_le _, rfl⟩, rfl⟩
            case rest =>
            obtain ⟨⟨x, hx, rfl⟩, rfl⟩ := hcut
            obtain ⟨vs, hOw, hPk, hDk, hO, hP, hfo, hvn⟩ := HTc.out
            have HOw := hid hOw
            have HO := hid hO
            have HP := hid hP
            have Hfo := hid hfo
            have hwz : w6.heap.size ≤ wc.heap.size := Nat.le_of_lt hO.lt
            have HPk := hid hPk
            have HDk := hid hDk
            clear hOw hO hP hfo hPk hDk
            go_upto_if 132 with fail
            go_cut [] (fun wx => ∃ (D' : List E) (vs' : List Value), Next D D' ∧ StoreO w6.heap.size wx w6.heap.size vs' (lsOf D') D'.length ∧ StP (lsOf D') D'.length ∧ Ow E.cells 5 w6.heap.size 45 wx u15 P ∧ (∀ i, FS w6.heap.size vs' i → foot u15 ≠ some i) ∧ wx.cell? ⟨wo.heap.size, 1, none⟩ = some (.int .i64 x1) ∧ Below w.heap.size w wx)
            case first =>
              have hres : ∀ (r : (Int × Int) × List E) (e : Ending) (w' : World), Next D r.2 → SRes w6.heap.size w6.heap.size vs wc (r.1, lsOf r.2, (r.2.length : Int)) e w' → ∃ (D' : List E) (vs' : List Value), Next D D' ∧ StoreO w6.heap.size w' w6.heap.size vs' (lsOf D') D'.length ∧ StP (lsOf D') D'.length ∧ Ow E.cells 5 w6.heap.size 45 w' u15 P ∧ (∀ i, FS w6.heap.size vs' i → foot u15 ≠ some i) ∧ w'.cell? ⟨wo.heap.size, 1, none⟩ = some (.int .i64 x1) ∧ Below w.heap.size w w' := fun r e w' hnx hs => by
                obtain ⟨vs', _, hO', hP', hF', hf'⟩ := hs
                refine ⟨r.2, vs', hnx, hO', hP', HOw.out.fr hF' (fun g hg h => Hfo.out _ h hg), fun i hi h => ?_, (HVb.out.fr hF' hvn).cell 1, Hbc.out.trans (hF'.below0 Hbc.out.size (fun i hi => Nat.le_trans h6w (HO.out.fsl hi).1))⟩
                rcases hf' i hi with h2 | h2
                · exact Hfo.out _ h2 h
                · have := (HOw.out.lt h).2; omega
              have Hres := hid hres
              clear hres
              by_cases h0 : x0 = 0
              · have HS := hid (sdel_any w6.heap.size w6.heap.size x1 vs (lsOf D) D.length wc HO.out HP.out)
                rw [sdel_r] at HS
                have HN := hid (rdel_next D x1)
                generalize rdel D x1 = R at *
                subst h0
                go_wp2_with fail
                refine HS.out.mono ?_
                intro e w8 h8
                have hfin := Hres.out R e w8 HN.out h8
                obtain ⟨vs', rfl, _⟩ := h8
                have Hfin := hid hfin
                clear hfin
                go_wp2_with fail
                go_meet
                exact Hfin.out
              · have HS := hid (sput_any w6.heap.size w6.heap.size x1 x hx vs (lsOf D) D.length wc HO.out HP.out)
                rw [sput_r] at HS
                have HN := hid (rput_next D x1 x)
                generalize rput D x1 x = R at *
                go_wp2_with fail
                refine HS.out.mono ?_
                intro e w8 h8
                have hfin := Hres.out R e w8 HN.out h8
                obtain ⟨vs', rfl, _⟩ := h8
                have Hfin := hid hfin
                clear hfin
                go_wp2_with fail
                go_meet
                exact Hfin.out
            case rest =>
            obtain ⟨D', vs', hnx, hO', hP', hOw', hfo', c1, hb'⟩ := hcut
            obtain ⟨we, rfl⟩ : ∃ we : World, we = wc := ⟨_, rfl⟩
            have HR := hid (sread_any w6.heap.size w6.heap.size x1 vs' (lsOf D') D'.length we hO' hP')
            rw [atS_r] at HR
            have hDk' : DOk D' := hnx.ok HDk.out
            have hD1000 : D'.length ≤ 1000 := by have := hP'.hi; omega
            have HO' := hid hO'
            have HP' := hid hP'
            have HOw' := hid hOw'
            have Hfo' := hid hfo'
            have Hb' := hid hb'
            have HPk' := hid (fun p hp => (HPk.out p hp).next hnx)
            have HDk' := hid hDk'
            have hwe : w.heap.size ≤ we.heap.size := hb'.size
            clear hO' hP' hOw' hfo' hb' hDk' hnx cv0 cv1
            rcases hk : keyB x1 with _ | _
            · have hrr : ratS D' x1 D'.length = (E.zero, 1) := by rw [ratS, hk, if_neg (by simp)]
              have Hrr := hid hrr
              clear hk hrr
              go_wp2_with fail
              refine HR.out.mono ?_
              rw [Hrr.out, errV_ne (show (1 : Int) ≠ 0 by decide)]
              unfold E.val E.zero
              rintro e w9 ⟨rfl, hb9⟩
              have hz9 := hb9.size
              have Hb9 := hid hb9
              clear hb9
              go_wp2_with fail
              go_roundw
              case rel =>
                refine ⟨n + 1, D', P, by omega, by go_num, by omega, PS.belowS (PS.belowS ⟨vs', HOw'.out, HPk'.out, HDk'.out, HO'.out, HP'.out, Hfo'.out⟩ Hb9.out) ((Below.refl _ _).alloc (Nat.le_refl _) _), (Below.step Hb'.out Hb9.out hwe).alloc (by omega) _⟩
              case measure => simp [intOf]; omega
            · obtain ⟨p, hp⟩ : ∃ p, entC x1 D'.length (refC D' x1) = p := ⟨_, rfl⟩
              have hrr : ratS D' x1 D'.length = (p, 0) := by rw [ratS, if_pos ⟨hk, by omega, by omega⟩, Int.toNat_natCast, List.take_length, hp]
              have hpk : PastOk D' p := ⟨x1, D'.length, hk, Nat.le_refl _, by rw [← hp]; rfl⟩
              have Hrr := hid hrr
              have Hpk := hid hpk
              have hPl : P.length ≤ 40 := by omega
              obtain ⟨p0, p1, p2, p3, p4⟩ := p
              clear hk hrr hp hpk
              go_wp2_with fail
              refine HR.out.mono ?_
              rw [Hrr.out, errV_zero]
              unfold E.val
              rintro e w9 ⟨rfl, hb9⟩
              have hz9 := hb9.size
              have hz9b : w6.heap.size ≤ w9.heap.size := by have := HO'.out.lt; omega
              have Hb9 := hid hb9
              have hOw9 := HOw'.out.belowS hb9
              clear hb9
              go_wp2_with (at_builtin; refine appE _ w6.heap.size _ P p0 p1 p2 p3 p4 (hOw9.alloc _) rfl _ _ rfl rfl rfl ?_ ?_ ?_ ?_)
              all_goals try (first | omega | (simp; done) | (simp; omega))
              intro v8 w10 h8 f8 o8
              have hfin : PS w6.heap.size w10 v8 D' (P ++ [⟨p0, p1, p2, p3, p4⟩]) := by
                have hOs := (((HO'.out.belowS Hb9.out).belowS ((Below.refl _ _).alloc (Nat.le_refl _) (.cells #[.int .i64 p0, .int .i64 p1, .int .i64 p2, .bool p3, .string p4] 45))))
                refine ⟨vs', h8, fun y hy => ?_, HDk'.out, hOs.fr f8 (fun h => Hfo'.out _ (.inl rfl) h.symm) (fun k hk g hg h => Hfo'.out _ (.inr ⟨k, hk, hg.symm⟩) h.symm), HP'.out, fun i hi h => ?_⟩
                · rcases List.mem_append.1 hy with hy | hy
                  · exact HPk'.out y hy
                  · rw [List.mem_singleton.1 hy]; exact Hpk.out
                · rcases o8 with o | o
                  · exact Hfo'.out _ hi (by rw [← o, h])
                  · rw [h] at o; cases o
                    have := (hOs.fsl hi).2
                    first | omega | (simp at this; omega)
              have hb10 : Below w.heap.size w w10 := ((Below.step Hb'.out Hb9.out hwe).alloc (by omega) _).trans (f8.below0 (by simp; omega) (fun i hi => Nat.le_trans h6w (hOw9.ge i hi)))
              have Hfin := hid hfin
              have Hb10 := hid hb10
              clear hfin hb10 h8 f8 o8 hOw9
              go_wp2_with fail
              go_roundw
              case rel => exact ⟨n + 1, D', _, by omega, by go_num, by rw [List.length_append, List.length_singleton]; omega, Hfin.out, Hb10.out⟩
              case measure => simp [intOf]; omega
        · go_wp2_with fail
          go_meet
          exact ⟨D, P, by omega, hPS, hbr⟩
      · go_wp2_with fail
        go_meet
        exact ⟨D, P, by omega, hPS, hbr⟩
  case rest =>
  obtain ⟨D, P, hP40, hPS, hbc⟩ := hcut
  have hgood := hPS.good
  obtain ⟨vs, hOw, hPk, hDk, hO, hP, hfo⟩ := hPS
  obtain ⟨r, rfl, hrx, hrA, _, _⟩ := EsAt.of_ow hOw hgood
  subst hrx
  have hD1000 : D.length ≤ 1000 := by have := hP.hi; omega
  have HO := hid hO
  have HP := hid hP
  have HPk := hid hPk
  have HDk := hid hDk
  have Hbc := hid hbc
  have hwc : w.heap.size ≤ wc.heap.size := hbc.size
  obtain ⟨wd, rfl⟩ : ∃ wd : World, wd = wc := ⟨_, rfl⟩
  clear hOw hO hP hPk hDk hbc hfo hgood hPS0
  go_wp2_with fail
  go_loopw [22] (fun i wr => ∃ m : Nat, m ≤ r.xs.length ∧ i = .int .i64 m ∧ Below wd.heap.size wd wr) (fun i _ => r.xs.length - (intOf i).toNat)
  case atStart => exact ⟨0, Nat.zero_le _, rfl, Below.refl _ _⟩
  case round =>
    obtain ⟨m, hm, rfl, hbr⟩ := hrel
    by_cases hlt : m < r.xs.length
    · as_aux_lemma =>
      obtain ⟨g, off, hA, hgl, hcells⟩ := hrA.row (by omega)
      obtain ⟨k, q, hk, hq, hpe⟩ := HPk.out _ (getD_memD E.zero hlt)
      obtain ⟨hck, hs0, hsq⟩ := past_ok HDk.out hD1000 hk hq
      have hAtS : ∀ (s : Int), (lastC (chsOf D k) q).seq ≤ s → s ≤ (q : Int) → atS (lsOf D) D.length k s = (entC k s (lastC (chsOf D k) q), 0) := fun s h1 h2 => by
        rw [atS_past hk (by omega) (by omega), lastC_mid _ _ _ h1 h2]
      have hBef : 0 < (lastC (chsOf D k) q).seq → ∃ c : Ch, atS (lsOf D) D.length k ((lastC (chsOf D k) q).seq - 1) = (entC k ((lastC (chsOf D k) q).seq - 1) c, 0) ∧ c.seq < (lastC (chsOf D k) q).seq := fun h =>
        ⟨_, atS_past hk (by omega) (by omega), past_before h⟩
      obtain ⟨k0, k1, k2, k3, k4⟩ := hcells m hlt
      rw [hpe] at k0 k1 k2 k3 k4
      generalize lastC (chsOf D k) q = c at *
      obtain ⟨c0, c1, c2⟩ := c
      simp only [entC] at k0 k1 k2 k3 k4 hck hs0 hsq hAtS hBef
      have hq1 : (q : Int) ≤ 1000 := by omega
      have HAt := hid (fun (s : Int) (h1 : c0 ≤ s) (h2 : s ≤ (q : Int)) W (hW : Below wd.heap.size wd W) => show Calls Tryd.prog 16 #[.pointer (some ⟨w6.heap.size, 0, none⟩), .int .i64 k, .int .i64 s] W (fun e w' => e = .returned (.tuple #[.agg #[.int .i64 k, .int .i64 c0, .int .i64 s, .bool c1, .string c2], .nilIface]) ∧ Below W.heap.size W w') from by
        have := sAt_any w6.heap.size w6.heap.size k s vs (lsOf D) D.length W (HO.out.belowS hW) HP.out
        rw [hAtS s h1 h2] at this
        exact this)
      have HBef := hid (fun (h : 0 < c0) => show ∃ d : Ch, d.seq < c0 ∧ ∀ W, Below wd.heap.size wd W → Calls Tryd.prog 16 #[.pointer (some ⟨w6.heap.size, 0, none⟩), .int .i64 k, .int .i64 (c0 - 1)] W (fun e w' => e = .returned (.tuple #[.agg #[.int .i64 k, .int .i64 d.seq, .int .i64 (c0 - 1), .bool d.gone, .string d.text], .nilIface]) ∧ Below W.heap.size W w') from by
        obtain ⟨d, h1, h2⟩ := hBef h
        refine ⟨d, h2, fun W hW => ?_⟩
        have := sAt_any w6.heap.size w6.heap.size k (c0 - 1) vs (lsOf D) D.length W (HO.out.belowS hW) HP.out
        rw [h1] at this
        exact this)
      have HCk := hid (fun W => show Calls Tryd.prog 19 #[.agg #[.int .i64 k, .int .i64 c0, .int .i64 q, .bool c1, .string c2]] W (fun e w' => e = .returned .nilIface ∧ Below W.heap.size W w') from by
        have := check_any k c0 q c1 c2 W (chk_good hck).2.2.2
        rw [hck] at this
        exact this)
      have HK := hid (fun W (hW : Below wd.heap.size wd W) => show (W.cell? ⟨g, off + m * 5, none⟩ = some (.int .i64 k) ∧ W.cell? ⟨g, off + m * 5 + 1, none⟩ = some (.int .i64 c0) ∧ W.cell? ⟨g, off + m * 5 + 2, none⟩ = some (.int .i64 q) ∧ W.cell? ⟨g, off + m * 5 + 3, none⟩ = some (.bool c1) ∧ W.cell? ⟨g, off + m * 5 + 4, none⟩ = some (.string c2)) from
        ⟨(hW.cell (p := ⟨g, _, none⟩) hgl).trans k0, (hW.cell (p := ⟨g, _, none⟩) hgl).trans k1, (hW.cell (p := ⟨g, _, none⟩) hgl).trans k2, (hW.cell (p := ⟨g, _, none⟩) hgl).trans k3, (hW.cell (p := ⟨g, _, none⟩) hgl).trans k4⟩)
      have hzr := hbr.size
      obtain ⟨j0, j1, j2, j3, j4⟩ := HK.out _ hbr
      have HA := hid hA
      have hgr : g < wr.heap.size := Nat.lt_of_lt_of_le hgl hzr
      rw [hA]
      clear hA hcells hpe hAtS hBef k0 k1 k2 k3 k4 hk hck
      go_upto_region 30 with fail
      go_cut [23, 24] (fun a er wx => er = .nilIface ∧ BoxR wr #[.int .i64 k, .int .i64 c0, .int .i64 q, .bool c1, .string c2] a wx)
      case first =>
        go_region_held3 (fun W => Below wr.heap.size wr W ∧ W.cell? ⟨g, off + m * 5, none⟩ = some (.int .i64 k) ∧ W.cell? ⟨g, off + m * 5 + 2, none⟩ = some (.int .i64 (q : Int))) (first | with_reducible exact keep2_below hgr hgr j0 j2 (Below.refl _ _).drew | (go_split_ands; with_reducible exact keep2_below hgr hgr j0 j2 (by assumption)) | with_reducible exact keep2_alloc _ hgr hgr (keep2_below hgr hgr j0 j2 (by assumption)) | with_reducible exact keep2_alloc _ hgr hgr (keep2_below hgr hgr j0 j2 (Below.refl _ _).drew) | (go_split_ands; with_reducible exact keep2_alloc _ hgr hgr (keep2_below hgr hgr j0 j2 (by assumption))) | (go_split_ands; exact keep2_below hgr hgr j0 j2 (by (repeat (first | with_reducible exact Below.refl _ _ | with_reducible assumption | (with_reducible refine Below.drew ?_) | (with_reducible refine Below.manyDrew ?_ _) | ((with_reducible refine Below.alloc ?_ ?_ _); rotate_left; (focus (first | omega | (dsimp only; omega) | (simp; done) | (simp; omega)))) | ((with_reducible refine Below.setCell ?_ ?_ _); rotate_left; (focus (first | omega | (dsimp only; omega) | (simp; done) | (simp; omega)))) | ((with_reducible refine Below.step ?_ (by assumption) ?_); rotate_left; (focus (first | omega | (dsimp only; omega) | (simp; done) | (simp; omega))))))))) (first | (go_at_call 16; go_split_ands; refine (HAt.out _ hsq (Int.le_refl _) _ ?_).mono ?_; (exact Below.step hbr (by assumption) hzr); rintro e w8 ⟨rfl, hb8⟩; have hb28 := bstep ‹Below wr.heap.size wr _› hb8; have hz28 := hb28.size; obtain ⟨hc8, hf8⟩ := bcell hb8; have hz8 := hb8.size; (try simp only [World.size_alloc] at hz8)))
        all_goals
          go_wp2_with fail
          go_meet
          refine ⟨rfl, ?_⟩
          have hb2j : Below wr.heap.size wr w8 := by (repeat (first | with_reducible exact Below.refl _ _ | with_reducible assumption | (with_reducible refine Below.drew ?_) | (with_reducible refine Below.manyDrew ?_ _) | ((with_reducible refine Below.alloc ?_ ?_ _); rotate_left; (focus (first | omega | (dsimp only; omega) | (simp; done) | (simp; omega)))) | ((with_reducible refine Below.setCell ?_ ?_ _); rotate_left; (focus (first | omega | (dsimp only; omega) | (simp; done) | (simp; omega)))) | ((with_reducible refine Below.step ?_ (by assumption) ?_); rotate_left; (focus (first | omega | (dsimp only; omega) | (simp; done) | (simp; omega))))))
          first
            | with_reducible exact BoxR.mk2 (g := wr.heap.size) (Blk.newA hb8) (Nat.le_refl _) hb2j
            | with_reducible exact BoxR.mk2 (g := wr.heap.size) (Blk.newD hb8) (Nat.le_refl _) hb2j
            | with_reducible exact BoxR.mk1 hb2j rfl
      case rest =>
        obtain ⟨rfl, g9, rfl, hg9, hB9, hb9⟩ := hcut
        have hl9 := hB9.lt
        have hgc : g < wc.heap.size := Nat.lt_of_lt_of_le hgr hb9.size
        have p0 : wc.cell? ⟨g, off + m * 5, none⟩ = some (.int .i64 k) := (hb9.cell (p := ⟨g, _, none⟩) hgr).trans j0
        have p1 : wc.cell? ⟨g, off + m * 5 + 1, none⟩ = some (.int .i64 c0) := (hb9.cell (p := ⟨g, _, none⟩) hgr).trans j1
        have p2 : wc.cell? ⟨g, off + m * 5 + 2, none⟩ = some (.int .i64 (q : Int)) := (hb9.cell (p := ⟨g, _, none⟩) hgr).trans j2
        have p3 : wc.cell? ⟨g, off + m * 5 + 3, none⟩ = some (.bool c1) := (hb9.cell (p := ⟨g, _, none⟩) hgr).trans j3
        have p4 : wc.cell? ⟨g, off + m * 5 + 4, none⟩ = some (.string c2) := (hb9.cell (p := ⟨g, _, none⟩) hgr).trans j4
        have e0 : wc.cell? ⟨g9, 0, none⟩ = some (.int .i64 k) := hB9.cell 0
        have e1 : wc.cell? ⟨g9, 1, none⟩ = some (.int .i64 c0) := hB9.cell 1
        have e2 : wc.cell? ⟨g9, 2, none⟩ = some (.int .i64 (q : Int)) := hB9.cell 2
        have e3 : wc.cell? ⟨g9, 3, none⟩ = some (.bool c1) := hB9.cell 3
        have e4 : wc.cell? ⟨g9, 4, none⟩ = some (.string c2) := hB9.cell 4
        have HB9 := hid hB9
        have HD0 := hid (Below.step hbr hb9 hzr)
        have hzc := hb9.size
        clear hB9 hb9 j0 j1 j2 j3 j4 hbr
        have hgt1 : decide ((q : Int) < c0) = false := by rw [decide_eq_false_iff_not]; omega
        go_wp2_with fail
        go_region_held3 (fun W => Below wc.heap.size wc W ∧ W.cell? ⟨g, off + m * 5, none⟩ = some (.int .i64 k) ∧ W.cell? ⟨g, off + m * 5 + 1, none⟩ = some (.int .i64 c0) ∧ W.cell? ⟨g, off + m * 5 + 2, none⟩ = some (.int .i64 (q : Int)) ∧ W.cell? ⟨g, off + m * 5 + 3, none⟩ = some (.bool c1) ∧ W.cell? ⟨g, off + m * 5 + 4, none⟩ = some (.string c2) ∧ W.cell? ⟨g9, 0, none⟩ = some (.int .i64 k) ∧ W.cell? ⟨g9, 1, none⟩ = some (.int .i64 c0) ∧ W.cell? ⟨g9, 2, none⟩ = some (.int .i64 (q : Int)) ∧ W.cell? ⟨g9, 3, none⟩ = some (.bool c1) ∧ W.cell? ⟨g9, 4, none⟩ = some (.string c2))
          (first | exact ⟨(Below.refl _ _).drew, p0, p1, p2, p3, p4, e0, e1, e2, e3, e4⟩ | (go_split_ands; exact ⟨by assumption, by assumption, by assumption, by assumption, by assumption, by assumption, by assumption, by assumption, by assumption, by assumption, by assumption⟩) | exact ⟨by assumption, by assumption, by assumption, by assumption, by assumption, by assumption, by assumption, by assumption, by assumption, by assumption, by assumption⟩)
          (first | (go_at_call 19; go_split_ands; refine (HCk.out _).mono ?_; rintro e wb ⟨rfl, hbb⟩; have hbb2 := bstep ‹Below wc.heap.size wc _› hbb; have p0b := (hbb2.cell (p := ⟨g, _, none⟩) hgc).trans p0; have p1b := (hbb2.cell (p := ⟨g, _, none⟩) hgc).trans p1; have p2b := (hbb2.cell (p := ⟨g, _, none⟩) hgc).trans p2; have p3b := (hbb2.cell (p := ⟨g, _, none⟩) hgc).trans p3; have p4b := (hbb2.cell (p := ⟨g, _, none⟩) hgc).trans p4; have e0b := (hbb2.cell (p := ⟨g9, _, none⟩) hl9).trans e0; have e1b := (hbb2.cell (p := ⟨g9, _, none⟩) hl9).trans e1; have e2b := (hbb2.cell (p := ⟨g9, _, none⟩) hl9).trans e2; have e3b := (hbb2.cell (p := ⟨g9, _, none⟩) hl9).trans e3; have e4b := (hbb2.cell (p := ⟨g9, _, none⟩) hl9).trans e4))
        have hbD := Below.step HD0.out hbb2 (by omega)
        have hzb := hbb2.size
        have HEb := hid (HB9.out.belowS hbb2)
        have HD1 := hid hbD
        clear p0 p1 p2 p3 p4 e0 e1 e2 e3 e4 p0b p1b p2b p3b p4b e0b e2b e3b e4b hbb hbb2 hbD
        have hlb : g9 < wb.heap.size := HEb.out.lt
        go_wp2_with fail
        go_loopw [25] (fun i wx => ∃ v : Int, c0 ≤ v ∧ v ≤ (q : Int) + 1 ∧ i = .int .i64 v ∧ Below wb.heap.size wb wx) (fun i _ => ((q : Int) + 1 - intOf i).toNat)
        case atStart => exact ⟨c0, Int.le_refl _, by omega, rfl, Below.refl _ _⟩
        case round =>
          obtain ⟨v, hv1, hv2, rfl, hbX⟩ := hrel
          obtain ⟨wx, rfl⟩ : ∃ wx : World, wx = wr := ⟨_, rfl⟩
          have hEx := HEb.out.belowS hbX
          have e0x : wx.cell? ⟨g9, 0, none⟩ = some (.int .i64 k) := hEx.cell 0
          have e1x : wx.cell? ⟨g9, 1, none⟩ = some (.int .i64 c0) := hEx.cell 1
          have e2x : wx.cell? ⟨g9, 2, none⟩ = some (.int .i64 (q : Int)) := hEx.cell 2
          have hzX := hbX.size
          have hlx : g9 < wx.heap.size := hEx.lt
          have hbD := HD1.out
          clear e1b hEx
          by_cases h1 : v ≤ (q : Int)
          · by_cases h2 : v < c0 + 50
            · go_wp2_with fail
              refine (HAt.out v hv1 h1 _ (Below.step hbD hbX (by omega))).mono ?_
              rintro e w20 ⟨rfl, hb20⟩
              have hbY := Below.step hbX hb20 hzX
              have hE20 := HEb.out.belowS hbY
              have hz20 := hbY.size
              have y1 : w20.cell? ⟨g9, 1, none⟩ = some (.int .i64 c0) := hE20.cell 1
              have y3 : w20.cell? ⟨g9, 3, none⟩ = some (.bool c1) := hE20.cell 3
              have y4 : w20.cell? ⟨g9, 4, none⟩ = some (.string c2) := hE20.cell 4
              have hl20 : g9 < w20.heap.size := hE20.lt
              have HbY := hid hbY
              clear e0x e1x e2x hb20 hbY hbX hE20 hbD
              go_wp2_with fail
              go_roundw
              case rel => exact ⟨v + 1, by omega, by omega, rfl, HbY.out.alloc (by omega) _⟩
              case measure => simp [intOf]; omega
            · by_cases hv0 : 0 < c0
              · obtain ⟨d, hd, HBd⟩ := HBef.out hv0
                obtain ⟨d0, d1, d2⟩ := d
                simp only at hd HBd
                have HBd := hid HBd
                go_wp2_with fail
                refine (HBd.out _ (Below.step hbD hbX (by omega))).mono ?_
                rintro e w20 ⟨rfl, hb20⟩
                have hbY := Below.step hbX hb20 hzX
                have hE20 := HEb.out.belowS hbY
                have hz20 := hbY.size
                have y1 : w20.cell? ⟨g9, 1, none⟩ = some (.int .i64 c0) := hE20.cell 1
                have hl20 : g9 < w20.heap.size := hE20.lt
                have HbY := hid hbY
                clear e1x e2x hb20 hbY hbX
                go_wp2_with fail
                go_roundw
                case rel => exact ⟨m + 1, by omega, by go_num, (Below.step hbD HbY.out (by omega)).alloc (by omega) _⟩
                case measure => simp [intOf]; omega
              · go_wp2_with fail
                go_roundw
                case rel => exact ⟨m + 1, by omega, by go_num, Below.step hbD hbX (by omega)⟩
                case measure => simp [intOf]; omega
          · by_cases hv0 : 0 < c0
            · obtain ⟨d, hd, HBd⟩ := HBef.out hv0
              obtain ⟨d0, d1, d2⟩ := d
              simp only at hd HBd
              have HBd := hid HBd
              go_wp2_with fail
              refine (HBd.out _ (Below.step hbD hbX (by omega))).mono ?_
              rintro e w20 ⟨rfl, hb20⟩
              have hbY := Below.step hbX hb20 hzX
              have hE20 := HEb.out.belowS hbY
              have hz20 := hbY.size
              have y1 : w20.cell? ⟨g9, 1, none⟩ = some (.int .i64 c0) := hE20.cell 1
              have hl20 : g9 < w20.heap.size := hE20.lt
              have HbY := hid hbY
              clear e1x e2x hb20 hbY hbX
              go_wp2_with fail
              go_roundw
              case rel => exact ⟨m + 1, by omega, by go_num, (Below.step hbD HbY.out (by omega)).alloc (by omega) _⟩
              case measure => simp [intOf]; omega
            · go_wp2_with fail
              go_roundw
              case rel => exact ⟨m + 1, by omega, by go_num, Below.step hbD hbX (by omega)⟩
              case measure => simp [intOf]; omega
    · obtain rfl : m = r.xs.length := by omega
      go_wp2_with fail
      go_ret
      exact ⟨rfl, Below.step Hbc.out hbr hwc⟩

set_option maxRecDepth 100000 in
theorem storePast_walk : LawWalk Tryd.prog 4 Tryd.f4 Gl := by
  intro W base args H enc ds p hval hA hgl
  rw [Tryd.params4] at hA hval
  obtain ⟨v0, v1, d0, d1, p0, p1, rfl, rfl, rfl, h0, h1⟩ := trodAll_two hA
  obtain ⟨st, rfl, hst⟩ := arg_slice Tryd.underlying22 codecInts (pos_of_eq Tryd.cellsInts (by decide)) (hval 0 22 v0 rfl rfl) h0
  obtain ⟨tx, rfl, htx⟩ := arg_slice Tryd.underlying23 (Codec.str Tryd.underlying9) (pos_of_eq Tryd.cellsStr (by decide)) (hval 1 23 v1 rfl rfl) h1
  exact storePast_any st tx W (intssAt_of hst) (strsAt_of htx) hgl

set_option maxRecDepth 100000 in
theorem storePast_lifted (os : Os) (started : os.Started) (H : Type) (enc : TypeId × Value → H) :
    ReturnsInHanded {} Tryd.checked os 4 .any (fun w args => (Rows.storePastSpec.pre enc Tryd.checked.prog Tryd.f4 [] false w args ∧ laidMetH Tryd.prog theLaid w) ∧ sizedMet enc Tryd.checked.prog Tryd.f4 (OpenSpec.ofChange Rows.storePastSpec) false w args) (Rows.storePastSpec.post enc Tryd.checked.prog Tryd.f4 false true false false) :=
  laid_lifted (C := Tryd.checked) theLaid (fun _ h => handle_of_laid h) [] Tryd.own started (by kernel_rfl) Tryd.func4 Tryd.laidOut (by kernel_rfl) rfl Tryd.underlying4 rfl (fun ds h => by match ds, h with | [_, _], _ => rfl)
    (ChangeSpec.witness_at (enc := enc) (C := Tryd.checked) (os := os) (X := fun w _ => laidMetH Tryd.prog theLaid w) false (laidWorld os) #[.slice none 0 0, .slice none 0 0] 8 rfl (by kernel_rfl) (by kernel_rfl) (by kernel_rfl) (by kernel_rfl) (by kernel_rfl) (laidWorld_met os _)) storePast_walk

theorem storePast_row : Rows.StorePastSaid :=
  OpenClaim.holds_of_wide 4 Tryd.f4 rfl rfl rfl rfl rfl rfl rfl ⟨rfl, rfl, rfl, rfl, rfl⟩ rfl rfl rfl rfl rfl (by kernel_rfl) Tryd.func4 (by kernel_rfl)
    (of_decide_eq_true (by kernel_rfl)) (by unfold Func.isWrapper; rw [if_neg (of_decide_eq_false (by kernel_rfl))]; exact ⟨rfl, rfl⟩)
    (fun os started H enc _ => storePast_lifted os started H enc)

theorem storePast_holds : Rows.StorePastCardSaid :=
  Claim7.holds_tied_plain_at .later [] [.handle] true _ true
    storePast_row (fun _ h => by cases h) (by kernel_rfl) (fun _ h => by cases h) storePast_row_tie rfl ⟨rfl, rfl⟩ (by kernel_rfl) rfl
    (fun f fn hf hfn => by
      obtain rfl : f = 4 := Option.some.inj ((show Tryd.prog.funcNamed "beaconmere/merelaw1.StorePast" = some 4 by kernel_rfl).symm.trans hf) |>.symm
      obtain rfl : fn = Tryd.f4 := (Option.some.inj (Tryd.func4.symm.trans hfn)).symm
      refine ⟨by kernel_rfl, fun j t ht => ?_⟩
      have hall : Tryd.f4.params.toList.all (fun t => !Tryd.prog.wantsStandIn t) = true := by kernel_rfl
      have hm : t ∈ Tryd.f4.params.toList := by
        obtain ⟨hj, hje⟩ := Array.getElem?_eq_some_iff.1 ht
        rw [← hje]
        exact Array.mem_toList_iff.2 (Array.getElem_mem hj)
      have := List.all_eq_true.1 hall t hm
      exact (show Tryd.prog.wantsStandIn t = false by simpa using this))
    (by kernel_rfl)

end Go.Proofs.YtjnbghpeaimmcaaDoor
