/-
  PROVED HERE: merelaw1.StorePlays returns true: anything that is put, deleted, swapped, and read does as the document says. CONDITIONS: errors.errorType as the program's text lays it (tied by the card).
-/
import Derived.Test.YtdnkegcffmjemaaDoorRStore
import Derived.Test.YtdnkegcffmjemaaDoorDoor
import Derived.Deep.CutBlock
import Derived.Deep.RegionHeld3
namespace Go.Proofs.YtdnkegcffmjemaaDoor
open Go.RowKit
open Go.ChangeShapes Go.WideShapes Go.ChangeAt

theorem lsOf_last {D : List E} {key : Int} (hk : keyB key = true) : lastC ((lsOf D).getD key.toNat []) (D.length : Int) = refC D key := by
  obtain ⟨h0, h8⟩ := keyB_true.1 hk
  rw [lsOf_get D _ (by omega), show ((key.toNat : Nat) : Int) = key by omega]
  rfl
theorem sdone_r (D : List E) (key : Int) (hk : keyB key = true) (g : Bool) (t : ByteArray) :
    sdone (lsOf D) D.length key.toNat g t = ((rdone D ⟨key, 0, 0, g, t⟩).1, lsOf (rdone D ⟨key, 0, 0, g, t⟩).2, ((rdone D ⟨key, 0, 0, g, t⟩).2.length : Int)) := by
  obtain ⟨h0, h8⟩ := keyB_true.1 hk
  by_cases h : D.length = 1000
  · rw [sdone, if_pos (by omega), rdone, if_pos h]; rfl
  · rw [sdone, if_neg (by omega), rdone, if_neg h]
    simp only
    rw [lsOf_snoc D ⟨key, 0, 0, g, t⟩ key.toNat (by omega) (by simp only; omega), List.length_append, List.length_singleton]
    rfl
theorem sput_r (D : List E) (key : Int) (t : ByteArray) : sput (lsOf D) D.length key t = ((rput D key t).1, lsOf (rput D key t).2, ((rput D key t).2.length : Int)) := by
  unfold sput rput
  split
  · rename_i hk
    split
    · rfl
    · exact sdone_r D key hk false t
  · rfl
theorem sdel_r (D : List E) (key : Int) : sdel (lsOf D) D.length key = ((rdel D key).1, lsOf (rdel D key).2, ((rdel D key).2.length : Int)) := by
  unfold sdel rdel
  split
  · rename_i hk
    rw [lsOf_last hk]
    split
    · rfl
    · exact sdone_r D key hk true ⟨#[]⟩
  · rfl
theorem sswap_r (D : List E) (key ver : Int) (t : ByteArray) : sswap (lsOf D) D.length key ver t = ((rswap D key ver t).1, lsOf (rswap D key ver t).2, ((rswap D key ver t).2.length : Int)) := by
  unfold sswap rswap
  split
  · rename_i hk
    split
    · rfl
    · rw [lsOf_last hk]
      split
      · exact sdone_r D key hk false t
      · rfl
  · rfl
def ratS (D : List E) (key q : Int) : E × Int := if keyB key = true ∧ 0 ≤ q ∧ q ≤ (D.length : Int) then (entC key q (refC (D.take q.toNat) key), 0) else (E.zero, 1)
theorem atS_r (D : List E) (key q : Int) : atS (lsOf D) D.length key q = ratS D key q := by
  unfold atS ratS
  split
  · rename_i h
    obtain ⟨hk, h0, hq⟩ := h
    obtain ⟨k0, k8⟩ := keyB_true.1 hk
    obtain ⟨n, rfl⟩ := Int.eq_ofNat_of_zero_le h0
    rw [lsOf_get D _ (by omega), show ((key.toNat : Nat) : Int) = key by omega, lastC_take D key n (by omega), Int.toNat_natCast]
  · rfl

theorem bstep {a W W' : World} (h : Below a.heap.size a W) (k : Below W.heap.size W W') : Below a.heap.size a W' := h.trans (k.mono h.size)
/-- a text -/
def TextV (v : Value) : Prop := ∃ x : ByteArray, x.size ≤ maxLen ∧ v = .string x
/-- the program's store and the reference's, alike and apart -/
def SPair (base s b : Nat) (w : World) (D : List E) : Prop :=
  ∃ vs v, StoreO base w s vs (lsOf D) D.length ∧ StP (lsOf D) D.length ∧ RStoreO base w b v D ∧ ∀ i, FS s vs i → ¬ (i = b ∨ some i = foot v)
theorem SPair.belowS {base s b : Nat} {w w' : World} {D : List E} (h : SPair base s b w D) (hb : Below w.heap.size w w') : SPair base s b w' D := by
  obtain ⟨vs, v, h1, h2, h3, h4⟩ := h
  exact ⟨vs, v, h1.belowS hb, h2, h3.belowS hb, h4⟩
theorem StoreO.fsl {base s : Nat} {w : World} {vs : List Value} {ls : List (List Ch)} {n : Int} (hO : StoreO base w s vs ls n) {i : Nat} (h : FS s vs i) : base ≤ i ∧ i < w.heap.size := by
  rcases h with rfl | ⟨j, hj, h⟩
  · exact ⟨hO.base, hO.lt⟩
  · exact hO.footlt hj h.symm
/-- a deed of both: what it leaves -/
theorem SPair.deed {base s b : Nat} {w w2 w3 : World} {D : List E} {vs : List Value} {v : Value} {e2 e3 : Ending} {r : (Int × Int) × List E}
    (hO : StoreO base w s vs (lsOf D) D.length) (hR : RStoreO base w b v D) (hd : ∀ i, FS s vs i → ¬ (i = b ∨ some i = foot v))
    (h2 : RRes base b v w r e2 w2) (h3 : SRes base s vs w2 (r.1, lsOf r.2, (r.2.length : Int)) e3 w3) :
    SPair base s b w3 r.2 ∧ Fr (fun i => (i = b ∨ some i = foot v) ∨ FS s vs i) w w3 := by
  obtain ⟨v', _, hR2, hF2, hf2⟩ := h2
  obtain ⟨vs', _, hO3, hP3, hF3, hf3⟩ := h3
  have hz2 := hF2.size
  have hz3 := hF3.size
  have hbl := hR.lt
  refine ⟨⟨vs', v', hO3, hP3, hR2.fr hF3 (fun h => ?_) (fun g hg h => ?_), fun i hi => ?_⟩, (hF2.mono (fun i _ h => .inl h)).step (hF3.mono (fun i _ h => .inr h))⟩
  · exact hd _ h (.inl rfl)
  · rcases hf2 with o | ⟨k, o, hk⟩
    · exact hd _ h (.inr (by rw [← o, hg]))
    · rw [hg] at o; cases o
      have := (hO.fsl h).2; omega
  · rcases hf3 i hi with h | h
    · rintro (e | e)
      · exact hd _ h (.inl e)
      · rcases hf2 with o | ⟨k, o, hk⟩
        · exact hd _ h (.inr (by rw [← o, e]))
        · rw [← e] at o; cases o
          have := (hO.fsl h).2; omega
    · rintro (e | e)
      · omega
      · have := (hR2.own.lt e.symm).2; omega

set_option maxHeartbeats 16000000 in
set_option maxRecDepth 100000 in
theorem storePlays_any (st : SlV (SlV Int)) (tx : SlV ByteArray) (w : World) (hst : IntssAt w st) (htx : StrsAt w tx) (hgl : Gl w) :
    Calls Tryd.prog 5 #[.slice st.A st.xs.length st.c, .slice tx.A tx.xs.length tx.c] w fun e w' => e = .returned (.bool true) ∧ Below w.heap.size w w' := by
  have hg0 := hgl.lt
  have hlen := hst.len
  have hlent := htx.len
  unfold maxLen at hlen hlent
  go_enter Tryd.func5, Tryd.ntmps5
  go_wp2_with fail
  refine (snew_any _).mono ?_
  rintro e w1 ⟨rfl, hO1, hb1⟩
  have hz1 := hb1.size
  have hl1 := hO1.lt
  have hne1 : w.heap.size ≠ w1.heap.size := by omega
  have hbel1 : Below w.heap.size w (w1.alloc (.cells #[.slice none 0 0] 53)) := hb1.alloc (by omega) _
  have hT1 : SPair w.heap.size w.heap.size w1.heap.size (w1.alloc (.cells #[.slice none 0 0] 53)) [] :=
    ⟨_, _, by rw [lsOf_nil]; exact hO1.belowS (by (repeat (first | with_reducible exact Below.refl _ _ | with_reducible assumption | (with_reducible refine Below.drew ?_) | (with_reducible refine Below.manyDrew ?_ _) | ((with_reducible refine Below.alloc ?_ ?_ _); rotate_left; (focus (first | omega | (dsimp only; omega) | (simp; done) | (simp; omega)))) | ((with_reducible refine Below.setCell ?_ ?_ _); rotate_left; (focus (first | omega | (dsimp only; omega) | (simp; done) | (simp; omega)))) | ((with_reducible refine Below.step ?_ (by assumption) ?_); rotate_left; (focus (first | omega | (dsimp only; omega) | (simp; done) | (simp; omega))))))), by rw [lsOf_nil]; exact StP.new, ⟨Blk.new _ _ _, Ow.nil _ _ _ _ _, (fun h => by cases h), hz1, (fun y hy => by cases hy), by simp⟩, fun i hi h => by
      have := (hO1.fsl hi).2
      rcases h with h | h
      · omega
      · cases h⟩
  clear hO1 hb1
  go_wp2_with fail
  go_loopw [7] (fun i wr => ∃ (n : Nat) (D : List E), n ≤ 80 ∧ i = .int .i64 n ∧ SPair w.heap.size w.heap.size w1.heap.size wr D ∧ Below w.heap.size w wr)
    (fun i _ => 80 - (intOf i).toNat)
  case atStart => exact ⟨0, [], by omega, rfl, hT1, hbel1⟩
  case round =>
    obtain ⟨n, D, hn, rfl, hT, hbr⟩ := hrel
    clear hT1 hbel1
    by_cases hn1 : n < st.xs.length
    · by_cases hn2 : n < 80
      · obtain ⟨b, off, hA, hb, hcells⟩ := hst.row (by omega)
        have hcell := hcells n hn1
        have hin := hst.each n hn1
        rw [← hbr.cell (p := ⟨b, off + n, none⟩) hb] at hcell
        have HA := hid hA
        rw [hA]
        generalize hrw : st.xs[n] = rw_ at *
        clear hcells hA
        obtain ⟨wo, rfl⟩ : ∃ wo : World, wo = wr := ⟨_, rfl⟩
        have hzr := hbr.size
        have hVlt : w.heap.size < wo.heap.size := by obtain ⟨_, _, h, _⟩ := hT; exact h.lt
        have hVlt1 : w1.heap.size < wo.heap.size := by obtain ⟨_, _, _, _, h, _⟩ := hT; exact h.lt
        go_upto_block 2 with fail
        go_cut [] (fun wx => ∃ vs : List Int, vs.length = 4 ∧ Blk wx wo.heap.size 54 (ints vs) ∧ Fr (fun x => x = wo.heap.size) (wo.alloc (.cells (ints [0, 0, 0, 0]) 54)) wx)
        case first =>
          have hV0 : Blk (wo.alloc (.cells (ints [0, 0, 0, 0]) 54)) wo.heap.size 54 (ints [0, 0, 0, 0]) := Blk.new _ _ _
          go_wp2_with fail
          go_loopw [9] (fun j w2 => ∃ (m : Nat) (vs : List Int), m ≤ 4 ∧ m ≤ rw_.xs.length ∧ j = .int .i64 m ∧ vs.length = 4 ∧ Blk w2 wo.heap.size 54 (ints vs) ∧ Fr (fun x => x = wo.heap.size) (wo.alloc (.cells (ints [0, 0, 0, 0]) 54)) w2)
            (fun j _ => 4 - (intOf j).toNat)
          case atStart => exact ⟨0, [0, 0, 0, 0], by omega, by omega, rfl, rfl, hV0, Fr.refl _ _⟩
          case round =>
            obtain ⟨m, vs, hm3, hml, rfl, hvl, hVb, hVf⟩ := hrel
            have hcell2 := (hVf.cell (p := ⟨b, off + n, none⟩) (by simp; omega) (by simp; omega)).trans ((World.cell?_alloc_lt wo _ ⟨b, off + n, none⟩ (by simp; omega)).trans hcell)
            by_cases hm1 : m < rw_.xs.length
            · by_cases hm2 : m < 4
              · obtain ⟨b2, off2, hA2, hb2, hcells2⟩ := hin.row (by omega)
                have hx := hcells2 m hm1
                have hx2 := (hVf.cell (p := ⟨b2, off2 + m, none⟩) (by simp; omega) (by simp; omega)).trans ((World.cell?_alloc_lt wo _ ⟨b2, off2 + m, none⟩ (by simp; omega)).trans ((hbr.cell (p := ⟨b2, off2 + m, none⟩) hb2).trans hx))
                rw [hA2] at hcell2
                generalize rw_.xs.getD m 0 = x at *
                have hv : _ = some (Value.int .i64 (vs.getD m 0)) := (hVb.cell m).trans (ints_get vs m (by omega))
                have hvf := hVb.frozen m
                have hVb' := hVb.put m (.int .i64 x)
                rw [ints_set] at hVb'
                have hVf' := Fr.setCell (S := fun x => x = wo.heap.size) hVf (p := ⟨wo.heap.size, m, none⟩) (.inl rfl) (.int .i64 x)
                have HV := hid (And.intro hVb' hVf')
                clear hcells2 hA2 hx hVb' hVf'
                go_wp2_with fail
                go_roundw
                case rel => exact ⟨m + 1, _, by omega, by omega, by go_num, by simpa using hvl, HV.out.1, HV.out.2⟩
                case measure => simp [intOf]; omega
              · go_wp2_with fail
                go_meet
                exact ⟨vs, hvl, hVb, hVf⟩
            · go_wp2_with fail
              go_meet
              exact ⟨vs, hvl, hVb, hVf⟩
        case rest =>
          obtain ⟨vs, hvl, hVb, hVf⟩ := hcut
          obtain ⟨x0, x1, x2, x3, rfl⟩ : ∃ x0 x1 x2 x3, vs = [x0, x1, x2, x3] := by
            match vs, hvl with
            | [x0, x1, x2, x3], _ => exact ⟨x0, x1, x2, x3, rfl⟩
          have cv0 : wc.cell? ⟨wo.heap.size, 0, none⟩ = some (.int .i64 x0) := hVb.cell 0
          have cv1 : wc.cell? ⟨wo.heap.size, 1, none⟩ = some (.int .i64 x1) := hVb.cell 1
          have cv2 : wc.cell? ⟨wo.heap.size, 2, none⟩ = some (.int .i64 x2) := hVb.cell 2
          have cv3 : wc.cell? ⟨wo.heap.size, 3, none⟩ = some (.int .i64 x3) := hVb.cell 3
          have hbo : Below wo.heap.size wo wc := ((Below.refl _ _).alloc (Nat.le_refl _) _).trans (hVf.below (by simp) (fun i hi e => by omega))
          have HTc : Hid (∃ vs v, StoreO w.heap.size wc w.heap.size vs (lsOf D) D.length ∧ StP (lsOf D) D.length ∧ RStoreO w.heap.size wc w1.heap.size v D ∧ (∀ i, FS w.heap.size vs i → ¬ (i = w1.heap.size ∨ some i = foot v)) ∧ ¬ ((wo.heap.size = w1.heap.size ∨ some wo.heap.size = foot v) ∨ FS w.heap.size vs wo.heap.size)) := hid (by
            obtain ⟨vs, v, h1, h2, h3, h4⟩ := hT
            refine ⟨vs, v, h1.belowS hbo, h2, h3.belowS hbo, h4, fun h => ?_⟩
            rcases h with (h | h) | h
            · omega
            · have := (h3.own.lt h.symm).2; omega
            · have := (h1.fsl h).2; omega)
          have Hbc := hid (show Below w.heap.size w wc from Below.step hbr hbo (by omega))
          have HVb := hid hVb
          have hVc := hVb.lt
          clear hVf hcell hin hT hbr hbo hVb
          go_upto_if 59 with fail
          go_cut [10] (fun t wx => TextV t ∧ wx = wc)
          case first =>
            by_cases hnt : n < tx.xs.length
            · obtain ⟨b2, off2, hA2, hb2, hc2⟩ := htx.row (by omega)
              have hx := (Hbc.out.cell (p := ⟨b2, off2 + n, none⟩) hb2).trans (hc2 n hnt)
              have hxg := htx.each _ (List.getElem_mem hnt)
              have Hxg := hid hxg
              generalize tx.xs[n] = x at *
              have HA2 := hid hA2
              rw [hA2]
              clear hA2 hc2 hxg
              go_wp2_with fail
              rw [← HA2.out]
              go_meet
              exact ⟨⟨x, Hxg.out, rfl⟩, rfl⟩
            · have hnt' : ¬ ((n : Int) < (tx.xs.length : Int)) := by omega
              go_wp2_with fail
              go_meet
              exact ⟨⟨ByteArray.mk #[], Nat.zero_le _, rfl⟩, rfl⟩
          case rest =>
          obtain ⟨⟨x, hx, rfl⟩, rfl⟩ := hcut
          go_upto_block 4 with fail
          go_cut [11, 12, 13, 14] (fun a e n err wx => ∃ x y : Int, a = .int .i64 x ∧ e = .int .i64 y ∧ n = .int .i64 x ∧ err = errV y ∧ ∃ D' : List E, SPair w.heap.size w.heap.size w1.heap.size wx D' ∧ Blk wx wo.heap.size 54 (ints [x0, x1, x2, x3]) ∧ Below w.heap.size w wx)
          case first =>
            as_aux_lemma =>
            obtain ⟨vs, v, hO, hP, hR, hd, hvn⟩ := HTc.out
            have hwz : w.heap.size ≤ wc.heap.size := Hbc.out.size
            have hVd : ∀ W, Fr (fun i => (i = w1.heap.size ∨ some i = foot v) ∨ FS w.heap.size vs i) wc W → Blk W wo.heap.size 54 (ints [x0, x1, x2, x3]) := fun W hF => HVb.out.fr hF hvn
            have hbd : ∀ W, Fr (fun i => (i = w1.heap.size ∨ some i = foot v) ∨ FS w.heap.size vs i) wc W → Below w.heap.size w W := fun W hF => Hbc.out.trans (hF.below0 hwz (fun i h => by
              rcases h with (h | h) | h
              · omega
              · exact hR.own.ge i h
              · exact (hO.fsl h).1))
            have hvs : ∀ W, Fr (fun i => i = w1.heap.size ∨ some i = foot v) wc W → (W.cell? ⟨wo.heap.size, 1, none⟩ = some (.int .i64 x1) ∧ W.cell? ⟨wo.heap.size, 2, none⟩ = some (.int .i64 x2)) ∧ StoreO w.heap.size W w.heap.size vs (lsOf D) D.length := fun W hF => by
              have hV := HVb.out.fr hF (fun h => hvn (.inl h))
              exact ⟨⟨hV.cell 1, hV.cell 2⟩, hO.fr hF (fun h => hd _ (.inl rfl) h) (fun k hk g hg h => hd _ (.inr ⟨k, hk, hg.symm⟩) h)⟩
            have HO := hid hO
            have HP := hid hP
            have HR := hid hR
            have Hd := hid hd
            have HVd := hid hVd
            have Hbd := hid hbd
            have Hvs := hid hvs
            clear hO hP hR hd hvn hVd hbd hvs
            by_cases h0 : x0 = 0 ∨ x0 = 1
            · have Hp := hid (rput_any w.heap.size w1.heap.size x1 x hx v D wc HR.out)
              have HS := hid (fun W (hW : StoreO w.heap.size W w.heap.size vs (lsOf D) D.length) => sput_any w.heap.size w.heap.size x1 x hx vs (lsOf D) D.length W hW HP.out)
              rw [sput_r] at HS
              generalize rput D x1 x = R at *
              obtain ⟨⟨r0, r1⟩, D'⟩ := R
              rcases h0 with rfl | rfl
              all_goals
                go_wp2_with fail
                refine Hp.out.mono ?_
                intro e w2 h2
                have H2 := hid h2
                obtain ⟨v', rfl, _, hF2, _⟩ := h2
                obtain ⟨⟨u1, u2⟩, hO2⟩ := Hvs.out _ hF2
                have HO2 := hid hO2
                clear hF2 hO2
                go_wp2_with fail
                refine (HS.out _ HO2.out).mono ?_
                intro e w3 h3
                have hfin := SPair.deed HO.out HR.out Hd.out H2.out h3
                obtain ⟨vs', rfl, _⟩ := h3
                have Hfin := hid hfin
                clear hfin u1 u2
                go_wp2_with fail
                go_meet
                exact ⟨r0, r1, rfl, rfl, rfl, rfl, D', Hfin.out.1, HVd.out _ Hfin.out.2, Hbd.out _ Hfin.out.2⟩
            · have h00 : ¬ x0 = 0 := fun h => h0 (.inl h)
              have h01 : ¬ x0 = 1 := fun h => h0 (.inr h)
              clear h0
              by_cases h2' : x0 = 2
              · subst h2'
                have Hp := hid (rdel_any w.heap.size w1.heap.size x1 v D wc HR.out)
                have HS := hid (fun W (hW : StoreO w.heap.size W w.heap.size vs (lsOf D) D.length) => sdel_any w.heap.size w.heap.size x1 vs (lsOf D) D.length W hW HP.out)
                rw [sdel_r] at HS
                generalize rdel D x1 = R at *
                obtain ⟨⟨r0, r1⟩, D'⟩ := R
                go_wp2_with fail
                refine Hp.out.mono ?_
                intro e w2 h2
                have H2 := hid h2
                obtain ⟨v', rfl, _, hF2, _⟩ := h2
                obtain ⟨⟨u1, u2⟩, hO2⟩ := Hvs.out _ hF2
                have HO2 := hid hO2
                clear hF2 hO2
                go_wp2_with fail
                refine (HS.out _ HO2.out).mono ?_
                intro e w3 h3
                have hfin := SPair.deed HO.out HR.out Hd.out H2.out h3
                obtain ⟨vs', rfl, _⟩ := h3
                have Hfin := hid hfin
                clear hfin u1 u2
                go_wp2_with fail
                go_meet
                exact ⟨r0, r1, rfl, rfl, rfl, rfl, D', Hfin.out.1, HVd.out _ Hfin.out.2, Hbd.out _ Hfin.out.2⟩
              · have Hp := hid (rswap_any w.heap.size w1.heap.size x1 x2 x hx v D wc HR.out)
                have HS := hid (fun W (hW : StoreO w.heap.size W w.heap.size vs (lsOf D) D.length) => sswap_any w.heap.size w.heap.size x1 x2 x hx vs (lsOf D) D.length W hW HP.out)
                rw [sswap_r] at HS
                generalize rswap D x1 x2 x = R at *
                obtain ⟨⟨r0, r1⟩, D'⟩ := R
                go_wp2_with fail
                refine Hp.out.mono ?_
                intro e w2 h2
                have H2 := hid h2
                obtain ⟨v', rfl, _, hF2, _⟩ := h2
                obtain ⟨⟨u1, u2⟩, hO2⟩ := Hvs.out _ hF2
                have HO2 := hid hO2
                clear hF2 hO2
                go_wp2_with fail
                refine (HS.out _ HO2.out).mono ?_
                intro e w3 h3
                have hfin := SPair.deed HO.out HR.out Hd.out H2.out h3
                obtain ⟨vs', rfl, _⟩ := h3
                have Hfin := hid hfin
                clear hfin u1 u2
                go_wp2_with fail
                go_meet
                exact ⟨r0, r1, rfl, rfl, rfl, rfl, D', Hfin.out.1, HVd.out _ Hfin.out.2, Hbd.out _ Hfin.out.2⟩
          case rest =>
          obtain ⟨rx, re, rfl, rfl, rfl, rfl, D', hT', hV', hb'⟩ := hcut
          obtain ⟨vs, v, hO, hP, hR, hd⟩ := hT'
          obtain ⟨q, rfl, hqx, hqA⟩ := hR.form
          have hL0 : wc.cell? ⟨w1.heap.size, 0, none⟩ = some (.slice q.A q.xs.length q.c) := hR.blk.cell 0
          have hbl := hR.lt
          have hgc : Gl wc := hgl.below hb' hg0
          have HV' := hid hV'
          have Hb' := hid hb'
          have HT' : Hid (SPair w.heap.size w.heap.size w1.heap.size wc D') := ⟨vs, _, hO, hP, hR, hd⟩
          have HO := hid hO
          have HP := hid hP
          have HR := hid hR
          have Hqx := hid hqx
          have Hgc := hid hgc
          have Herr : Hid (∀ W, Below wc.heap.size wc W → Calls Tryd.prog 9 #[errV re, .int .i64 re] W fun e w' => e = .returned (.bool true) ∧ Below W.heap.size W w') := fun W hW => by
            have := error_any re re W (Hgc.out.belowS hW)
            rw [beq_self_eq_true] at this
            exact this
          have Hseq : Hid (∀ W, Below wc.heap.size wc W → Calls Tryd.prog 19 #[.pointer (some ⟨w.heap.size, 0, none⟩)] W fun e w' => e = .returned (.int .i64 q.xs.length) ∧ W = w') := fun W hW => by
            have := sseq_any w.heap.size w.heap.size vs _ _ W (HO.out.belowS hW)
            rw [← Hqx.out] at this
            exact this
          clear hV' hb' hO hP hR hd hqx hqA hgc
          go_upto_region 28 with fail
          go_cut [15] (fun t wx => t = .bool true ∧ Below wc.heap.size wc wx)
          case first =>
            go_region_held3 (fun W => Below wc.heap.size wc W ∧ W.cell? ⟨w1.heap.size, 0, none⟩ = some (.slice q.A q.xs.length q.c)) (first | exact ⟨(Below.refl _ _).drew, hL0⟩ | (go_split_ands; exact ⟨by assumption, by assumption⟩) | exact ⟨by assumption, by assumption⟩) (first | (go_at_call 19; go_split_ands; refine (Hseq.out _ ?_).mono ?_; (assumption); rintro e wb ⟨rfl, rfl⟩) | (go_at_call 9; go_split_ands; refine (Herr.out _ ?_).mono ?_; (assumption); rintro e wa ⟨rfl, hba⟩; have hba2 := bstep ‹Below wc.heap.size wc _› hba; have hL0a : wa.cell? ⟨w1.heap.size, 0, none⟩ = some (.slice q.A q.xs.length q.c) := (hba2.cell (p := ⟨w1.heap.size, 0, none⟩) hbl).trans hL0))
            all_goals
              go_wp2_with fail
              go_meet
              go_split_ands
              exact ⟨rfl, by assumption⟩
          case rest =>
          obtain ⟨rfl, hb28⟩ := hcut
          obtain ⟨we, rfl⟩ : ∃ we : World, we = wc := ⟨_, rfl⟩
          have hVe := HV'.out.belowS hb28
          have hLe : we.cell? ⟨w1.heap.size, 0, none⟩ = some (.slice q.A q.xs.length q.c) := (hb28.cell (p := ⟨w1.heap.size, 0, none⟩) hbl).trans hL0
          have HOe := hid (HO.out.belowS hb28)
          have HRe := hid (HR.out.belowS hb28)
          have Hbe := hid (show Below w.heap.size w we from Below.step Hb'.out hb28 Hb'.out.size)
          have e1 : we.cell? ⟨wo.heap.size, 1, none⟩ = some (.int .i64 x1) := hVe.cell 1
          have e3 : we.cell? ⟨wo.heap.size, 3, none⟩ = some (.int .i64 x3) := hVe.cell 3
          have hvl : wo.heap.size < we.heap.size := hVe.lt
          have hrl : w1.heap.size < we.heap.size := HRe.out.lt
          have hvn : wo.heap.size ≠ we.heap.size := by omega
          have hrn : w1.heap.size ≠ we.heap.size := by omega
          have HT2 : Hid (SPair w.heap.size w.heap.size w1.heap.size we D') := HT'.out.belowS hb28
          have Hge := hid (show Gl we from hgl.below Hbe.out hg0)
          have hX0 : Blk (we.alloc (.cells #[.int .i64 0, .int .i64 0, .int .i64 0, .bool false, .string ⟨#[]⟩] 40)) we.heap.size 40 #[.int .i64 0, .int .i64 0, .int .i64 0, .bool false, .string ⟨#[]⟩] := Blk.new _ _ _
          have HX0 := hid hX0
          have hlq : q.xs.length = D'.length := by rw [Hqx.out]
          have Hlq := hid hlq
          obtain ⟨okb, hokb⟩ : ∃ b, decide (keyB x1 = true ∧ 0 ≤ x3 ∧ x3 ≤ (q.xs.length : Int)) = b := ⟨_, rfl⟩
          have Hokb := hid hokb
          obtain ⟨r, hr⟩ : ∃ r, ratS D' x1 x3 = r := ⟨_, rfl⟩
          have Hr := hid hr
          obtain ⟨kb, hkb⟩ : ∃ b, keyB x1 = b := ⟨_, rfl⟩
          have Hkb := hid hkb
          obtain ⟨⟨c0, c1, c2, c3, c4⟩, e0⟩ := r
          clear hVe hL0 hb28 hX0 hokb hr hkb hlq
          go_upto_region 32 with ((go_at_call 8; refine (rkey_any _ _).mono ?_; rintro e w' ⟨rfl, rfl⟩); rw [Hkb.out])
          go_cut [158] (fun t wx => t = .bool (!okb) ∧ ∃ k, wx = (we.alloc (.cells #[.int .i64 0, .int .i64 0, .int .i64 0, .bool false, .string ⟨#[]⟩] 40)).drewN k)
          case first =>
            as_aux_lemma =>
            have hcase : (kb = false ∧ okb = false) ∨ (kb = true ∧ okb = false ∧ x3 < 0) ∨ (kb = true ∧ okb = false ∧ 0 ≤ x3 ∧ (q.xs.length : Int) < x3) ∨ (kb = true ∧ okb = true ∧ 0 ≤ x3 ∧ x3 ≤ (q.xs.length : Int)) := by
              have h := Hokb.out
              rw [Hkb.out] at h
              cases kb with
              | false => exact .inl ⟨rfl, by rw [← h]; exact decide_eq_false (by simp)⟩
              | true =>
                by_cases h0 : 0 ≤ x3
                · by_cases h1 : x3 ≤ (q.xs.length : Int)
                  · exact .inr (.inr (.inr ⟨rfl, by rw [← h]; exact decide_eq_true ⟨rfl, h0, h1⟩, h0, h1⟩))
                  · exact .inr (.inr (.inl ⟨rfl, by rw [← h]; exact decide_eq_false (fun k => h1 k.2.2), h0, by omega⟩))
                · exact .inr (.inl ⟨rfl, by rw [← h]; exact decide_eq_false (fun k => h0 k.2.1), by omega⟩)
            rcases hcase with ⟨rfl, rfl⟩ | ⟨rfl, rfl, h1⟩ | ⟨rfl, rfl, h1, h2⟩ | ⟨rfl, rfl, h1, h2⟩
            all_goals
              go_quiet (fail)
              go_wp2_with fail
              go_meet
              first
                | exact ⟨rfl, _, rfl⟩
                | exact ⟨by rw [decide_eq_false (show ¬ x3 < 0 by omega), decide_eq_false (show ¬ (q.xs.length : Int) < x3 by omega)]; rfl, _, rfl⟩
          case rest =>
          obtain ⟨rfl, kq, rfl⟩ := hcut
          go_upto_if 158 with fail
          go_cut [12] (fun t wx => t = .int .i64 e0 ∧ Blk wx we.heap.size 40 #[.int .i64 c0, .int .i64 c1, .int .i64 c2, .bool c3, .string c4] ∧ Below we.heap.size we wx)
          case first =>
            as_aux_lemma =>
            have hX := HX0.out.drewN kq
            have hXB : Below we.heap.size we ((we.alloc (.cells #[.int .i64 0, .int .i64 0, .int .i64 0, .bool false, .string ⟨#[]⟩] 40)).drewN kq) := Below.manyDrew ((Below.refl _ _).alloc (Nat.le_refl _) _) _
            cases okb with
            | false =>
              have hrr : ratS D' x1 x3 = (E.zero, 1) := by
                rw [ratS, if_neg]
                have := of_decide_eq_false Hokb.out
                rw [Hlq.out] at this
                exact this
              rw [Hr.out] at hrr
              unfold E.zero at hrr
              injection hrr with h1 h2
              injection h1 with q0 q1 q2 q3 q4
              subst q0 q1 q2 q3 q4 h2
              go_wp2_with fail
              go_meet
              exact ⟨rfl, hX, hXB⟩
            | true =>
              have hok := of_decide_eq_true Hokb.out
              rw [Hlq.out] at hok
              obtain ⟨hk, h0, hq3⟩ := hok
              obtain ⟨n3, rfl⟩ := Int.eq_ofNat_of_zero_le h0
              have hn3 : n3 ≤ D'.length := by omega
              have hrr : ratS D' x1 n3 = (entC x1 n3 (refC (D'.take n3) x1), 0) := by rw [ratS, if_pos ⟨hk, h0, hq3⟩, Int.toNat_natCast]
              rw [Hr.out] at hrr
              injection hrr with hr1 hr2
              subst hr2
              have HAt := hid (fun W (hW : Below we.heap.size we W) => rAt_any w.heap.size w1.heap.size x1 n3 _ D' hn3 W (HRe.out.belowS hW))
              rw [← hr1] at HAt
              have HX := hid hX
              have HXB := hid hXB
              clear hX hXB hk h0 hq3 hr1
              go_wp2_with fail
              refine (HAt.out _ HXB.out).mono ?_
              unfold E.val
              rintro e w6 ⟨rfl, hb6⟩
              have hX6 := HX.out.belowS hb6
              have g0 := hX6.frozen 0
              have g1 := hX6.frozen 1
              have g2 := hX6.frozen 2
              have g3 := hX6.frozen 3
              have g4 := hX6.frozen 4
              have d0 := hX6.cell 0
              have d1 := hX6.cell 1
              have d2 := hX6.cell 2
              have d3 := hX6.cell 3
              have d4 := hX6.cell 4
              have HX6 := hid hX6
              have Hb6 := hid (bstep HXB.out hb6)
              clear hX6
              go_wp2_with fail
              go_meet
              refine ⟨rfl, HX6.out.put5 _ _ _ _ _, ?_⟩
              exact ((((Hb6.out.setCell (by simp) _).setCell (by simp) _).setCell (by simp) _).setCell (by simp) _).setCell (by simp) _
          case rest =>
          obtain ⟨rfl, hX7, hb7⟩ := hcut
          obtain ⟨wf, rfl⟩ : ∃ wf : World, wf = wc := ⟨_, rfl⟩
          have HsAt := hid (fun W (hW : Below we.heap.size we W) => sAt_any w.heap.size w.heap.size x1 x3 vs (lsOf D') D'.length W (HOe.out.belowS hW) HP.out)
          rw [atS_r, Hr.out] at HsAt
          have f1 : wf.cell? ⟨wo.heap.size, 1, none⟩ = some (.int .i64 x1) := (hb7.cell (p := ⟨wo.heap.size, 1, none⟩) hvl).trans e1
          have f3 : wf.cell? ⟨wo.heap.size, 3, none⟩ = some (.int .i64 x3) := (hb7.cell (p := ⟨wo.heap.size, 3, none⟩) hvl).trans e3
          have hXl := hX7.lt
          have HX7 := hid hX7
          have Hb7 := hid hb7
          clear hX7 hb7 hLe
          go_wp2_with fail
          refine (HsAt.out _ Hb7.out).mono ?_
          unfold E.val
          rintro e w8 ⟨rfl, hb8⟩
          have hz8 := hb8.size
          have hXw8 : we.heap.size ≠ w8.heap.size := by omega
          have Hb8 := hid (bstep Hb7.out hb8)
          have hY8 : Blk (w8.alloc (.cells #[.int .i64 c0, .int .i64 c1, .int .i64 c2, .bool c3, .string c4] 40)) w8.heap.size 40 #[.int .i64 c0, .int .i64 c1, .int .i64 c2, .bool c3, .string c4] := Blk.new _ _ _
          have hX8 : Blk (w8.alloc (.cells #[.int .i64 c0, .int .i64 c1, .int .i64 c2, .bool c3, .string c4] 40)) we.heap.size 40 #[.int .i64 c0, .int .i64 c1, .int .i64 c2, .bool c3, .string c4] := (HX7.out.belowS hb8).alloc _
          have hb8' : Below we.heap.size we (w8.alloc (.cells #[.int .i64 c0, .int .i64 c1, .int .i64 c2, .bool c3, .string c4] 40)) := Hb8.out.alloc (by omega) _
          have HY8 := hid hY8
          have HX8 := hid hX8
          have Hb8' := hid hb8'
          have hg8 : Gl (w8.alloc (.cells #[.int .i64 c0, .int .i64 c1, .int .i64 c2, .bool c3, .string c4] 40)) := Hge.out.belowS hb8'
          clear hY8 hX8 hb8'
          go_wp2_with fail
          refine (error_any e0 e0 _ hg8).mono ?_
          rintro e w9 ⟨rfl, hb9⟩
          rw [beq_self_eq_true]
          have hX9 := HX8.out.belowS hb9
          have hY9 := HY8.out.belowS hb9
          have Hb9 := hid (bstep Hb8'.out hb9)
          have hvl9 : wo.heap.size < w9.heap.size := by have := Hb9.out.size; omega
          have x0c := hX9.cell 0
          have x1c := hX9.cell 1
          have x2c := hX9.cell 2
          have x3c := hX9.cell 3
          have x4c := hX9.cell 4
          have x0f := hX9.frozen 0
          have x1f := hX9.frozen 1
          have x2f := hX9.frozen 2
          have x3f := hX9.frozen 3
          have x4f := hX9.frozen 4
          have y0c := hY9.cell 0
          have y1c := hY9.cell 1
          have y2c := hY9.cell 2
          have y3c := hY9.cell 3
          have y4c := hY9.cell 4
          have HX9 := hid hX9
          have HY9 := hid hY9
          clear hX9 hY9 hg8 f1 f3 hb8 hb9
          obtain ⟨r2, hr2⟩ : ∃ r, ratS D' x1 D'.length = r := ⟨_, rfl⟩
          have Hr2 := hid hr2
          obtain ⟨⟨k0, k1, k2, k3, k4⟩, e20⟩ := r2
          clear hr2
          go_upto_if 184 with fail
          have hX10 := HX9.out.put5 (.int .i64 0) (.int .i64 0) (.int .i64 0) (.bool false) (.string ⟨#[]⟩)
          have hb10 : Below we.heap.size we (((((w9.setCell ⟨we.heap.size, 0, none⟩ (.int .i64 0)).setCell ⟨we.heap.size, 1, none⟩ (.int .i64 0)).setCell ⟨we.heap.size, 2, none⟩ (.int .i64 0)).setCell ⟨we.heap.size, 3, none⟩ (.bool false)).setCell ⟨we.heap.size, 4, none⟩ (.string ⟨#[]⟩)) :=
            ((((Hb9.out.setCell (by simp) _).setCell (by simp) _).setCell (by simp) _).setCell (by simp) _).setCell (by simp) _
          have hY10 : Blk (((((w9.setCell ⟨we.heap.size, 0, none⟩ (.int .i64 0)).setCell ⟨we.heap.size, 1, none⟩ (.int .i64 0)).setCell ⟨we.heap.size, 2, none⟩ (.int .i64 0)).setCell ⟨we.heap.size, 3, none⟩ (.bool false)).setCell ⟨we.heap.size, 4, none⟩ (.string ⟨#[]⟩)) w8.heap.size 40 #[.int .i64 c0, .int .i64 c1, .int .i64 c2, .bool c3, .string c4] :=
            ((((HY9.out.far (p := ⟨we.heap.size, 0, none⟩) (by simp only; omega) _).far (p := ⟨we.heap.size, 1, none⟩) (by simp only; omega) _).far (p := ⟨we.heap.size, 2, none⟩) (by simp only; omega) _).far (p := ⟨we.heap.size, 3, none⟩) (by simp only; omega) _).far (p := ⟨we.heap.size, 4, none⟩) (by simp only; omega) _
          obtain ⟨w10, hw10⟩ : ∃ W : World, W = (((((w9.setCell ⟨we.heap.size, 0, none⟩ (.int .i64 0)).setCell ⟨we.heap.size, 1, none⟩ (.int .i64 0)).setCell ⟨we.heap.size, 2, none⟩ (.int .i64 0)).setCell ⟨we.heap.size, 3, none⟩ (.bool false)).setCell ⟨we.heap.size, 4, none⟩ (.string ⟨#[]⟩)) := ⟨_, rfl⟩
          rw [← hw10] at hX10 hb10 hY10 ⊢
          have HX10 := hid hX10
          have HY10 := hid hY10
          have Hb10 := hid hb10
          have z1 : w10.cell? ⟨wo.heap.size, 1, none⟩ = some (.int .i64 x1) := (hb10.cell (p := ⟨wo.heap.size, 1, none⟩) hvl).trans e1
          clear x0c x1c x2c x3c x4c x0f x1f x2f x3f x4f y0c y1c y2c y3c y4c hX10 hY10 hb10 hw10
          go_cut [12] (fun t wx => t = .int .i64 e20 ∧ Blk wx we.heap.size 40 #[.int .i64 k0, .int .i64 k1, .int .i64 k2, .bool k3, .string k4] ∧ Blk wx w8.heap.size 40 #[.int .i64 c0, .int .i64 c1, .int .i64 c2, .bool c3, .string c4] ∧ Below we.heap.size we wx)
          case first =>
            as_aux_lemma =>
            cases kb with
            | false =>
              have hrr : ratS D' x1 D'.length = (E.zero, 1) := by rw [ratS, Hkb.out, if_neg (by simp)]
              rw [Hr2.out] at hrr
              unfold E.zero at hrr
              injection hrr with h1 h2
              injection h1 with q0 q1 q2 q3 q4
              subst q0 q1 q2 q3 q4 h2
              go_wp2_with fail
              go_meet
              exact ⟨rfl, HX10.out, HY10.out, Hb10.out⟩
            | true =>
              have hrr : ratS D' x1 D'.length = (entC x1 D'.length (refC D' x1), 0) := by rw [ratS, if_pos ⟨Hkb.out, by omega, by omega⟩, Int.toNat_natCast, List.take_length]
              rw [Hr2.out] at hrr
              injection hrr with hr1 hr2
              subst hr2
              have HAt := hid (fun W (hW : Below we.heap.size we W) => rRead_any w.heap.size w1.heap.size x1 _ D' W (HRe.out.belowS hW))
              rw [← hr1] at HAt
              clear hr1
              go_wp2_with fail
              refine (HAt.out _ Hb10.out).mono ?_
              unfold E.val
              rintro e w11 ⟨rfl, hb11⟩
              have hX11 := HX10.out.belowS hb11
              have g0 := hX11.frozen 0
              have g1 := hX11.frozen 1
              have g2 := hX11.frozen 2
              have g3 := hX11.frozen 3
              have g4 := hX11.frozen 4
              have d0 := hX11.cell 0
              have d1 := hX11.cell 1
              have d2 := hX11.cell 2
              have d3 := hX11.cell 3
              have d4 := hX11.cell 4
              have HX11 := hid hX11
              have HY11 := hid (HY10.out.belowS hb11)
              have Hb11 := hid (bstep Hb10.out hb11)
              clear hX11
              go_wp2_with fail
              go_meet
              refine ⟨rfl, HX11.out.put5 _ _ _ _ _, ?_, ?_⟩
              · exact ((((HY11.out.far (p := ⟨we.heap.size, 0, none⟩) (by simp only; omega) _).far (p := ⟨we.heap.size, 1, none⟩) (by simp only; omega) _).far (p := ⟨we.heap.size, 2, none⟩) (by simp only; omega) _).far (p := ⟨we.heap.size, 3, none⟩) (by simp only; omega) _).far (p := ⟨we.heap.size, 4, none⟩) (by simp only; omega) _
              · exact ((((Hb11.out.setCell (by simp) _).setCell (by simp) _).setCell (by simp) _).setCell (by simp) _).setCell (by simp) _
          case rest =>
          obtain ⟨rfl, hX12, hY12, hb12⟩ := hcut
          obtain ⟨wg, rfl⟩ : ∃ wg : World, wg = wc := ⟨_, rfl⟩
          have HsR := hid (fun W (hW : Below we.heap.size we W) => sread_any w.heap.size w.heap.size x1 vs (lsOf D') D'.length W (HOe.out.belowS hW) HP.out)
          rw [atS_r, Hr2.out] at HsR
          have f1 : wg.cell? ⟨wo.heap.size, 1, none⟩ = some (.int .i64 x1) := (hb12.cell (p := ⟨wo.heap.size, 1, none⟩) hvl).trans e1
          have HX12 := hid hX12
          have HY12 := hid hY12
          have Hb12 := hid hb12
          clear hX12 hY12 hb12 z1
          go_wp2_with fail
          refine (HsR.out _ Hb12.out).mono ?_
          unfold E.val
          rintro e w13 ⟨rfl, hb13⟩
          have hY13 := HY12.out.belowS hb13
          have g0 := hY13.frozen 0
          have g1 := hY13.frozen 1
          have g2 := hY13.frozen 2
          have g3 := hY13.frozen 3
          have g4 := hY13.frozen 4
          have d0 := hY13.cell 0
          have d1 := hY13.cell 1
          have d2 := hY13.cell 2
          have d3 := hY13.cell 3
          have d4 := hY13.cell 4
          have HX13 := hid (HX12.out.belowS hb13)
          have HY13 := hid hY13
          have Hb13 := hid (bstep Hb12.out hb13)
          clear hY13 f1 hb13
          go_upto_region 43 with fail
          have hY14 := HY13.out.put5 (.int .i64 k0) (.int .i64 k1) (.int .i64 k2) (.bool k3) (.string k4)
          have hX14 := ((((HX13.out.far (p := ⟨w8.heap.size, 0, none⟩) (by simp only; omega) (.int .i64 k0)).far (p := ⟨w8.heap.size, 1, none⟩) (by simp only; omega) (.int .i64 k1)).far (p := ⟨w8.heap.size, 2, none⟩) (by simp only; omega) (.int .i64 k2)).far (p := ⟨w8.heap.size, 3, none⟩) (by simp only; omega) (.bool k3)).far (p := ⟨w8.heap.size, 4, none⟩) (by simp only; omega) (.string k4)
          have hb14 : Below we.heap.size we (((((w13.setCell ⟨w8.heap.size, 0, none⟩ (.int .i64 k0)).setCell ⟨w8.heap.size, 1, none⟩ (.int .i64 k1)).setCell ⟨w8.heap.size, 2, none⟩ (.int .i64 k2)).setCell ⟨w8.heap.size, 3, none⟩ (.bool k3)).setCell ⟨w8.heap.size, 4, none⟩ (.string k4)) :=
            ((((Hb13.out.setCell (by simp only; omega) _).setCell (by simp only; omega) _).setCell (by simp only; omega) _).setCell (by simp only; omega) _).setCell (by simp only; omega) _
          obtain ⟨w14, hw14⟩ : ∃ W : World, W = (((((w13.setCell ⟨w8.heap.size, 0, none⟩ (.int .i64 k0)).setCell ⟨w8.heap.size, 1, none⟩ (.int .i64 k1)).setCell ⟨w8.heap.size, 2, none⟩ (.int .i64 k2)).setCell ⟨w8.heap.size, 3, none⟩ (.bool k3)).setCell ⟨w8.heap.size, 4, none⟩ (.string k4)) := ⟨_, rfl⟩
          rw [← hw14] at hY14 hX14 hb14 ⊢
          have HX14 := hid hX14
          have HY14 := hid hY14
          have Hb14 := hid hb14
          have hg14 : Gl w14 := Hge.out.belowS hb14
          clear g0 g1 g2 g3 g4 d0 d1 d2 d3 d4 hY14 hX14 hb14 hw14
          go_wp2_with fail
          refine (error_any e20 e20 _ hg14).mono ?_
          rintro e w15 ⟨rfl, hb15⟩
          rw [beq_self_eq_true]
          have hX15 := HX14.out.belowS hb15
          have hY15 := HY14.out.belowS hb15
          have Hb15 := hid (bstep Hb14.out hb15)
          have x0c := hX15.cell 0
          have x1c := hX15.cell 1
          have x2c := hX15.cell 2
          have x3c := hX15.cell 3
          have x4c := hX15.cell 4
          have y0c := hY15.cell 0
          have y1c := hY15.cell 1
          have y2c := hY15.cell 2
          have y3c := hY15.cell 3
          have y4c := hY15.cell 4
          clear hX15 hY15 hg14 hb15
          go_wp2_with fail
          go_roundw
          case rel => exact ⟨n + 1, D', by omega, by go_num, HT2.out.belowS Hb15.out, Below.step Hbe.out Hb15.out Hbe.out.size⟩
          case measure => simp [intOf]; omega
      · go_wp2_with fail
        go_ret
        exact ⟨rfl, hbr⟩
    · go_wp2_with fail
      go_ret
      exact ⟨rfl, hbr⟩

set_option maxRecDepth 100000 in
theorem storePlays_walk : LawWalk Tryd.prog 5 Tryd.f5 Gl := by
  intro W base args H enc ds p hval hA hgl
  rw [Tryd.params5] at hA hval
  obtain ⟨v0, v1, d0, d1, p0, p1, rfl, rfl, rfl, h0, h1⟩ := trodAll_two hA
  obtain ⟨st, rfl, hst⟩ := arg_slice Tryd.underlying22 codecInts (pos_of_eq Tryd.cellsInts (by decide)) (hval 0 22 v0 rfl rfl) h0
  obtain ⟨tx, rfl, htx⟩ := arg_slice Tryd.underlying50 (Codec.str Tryd.underlying9) (pos_of_eq Tryd.cellsStr (by decide)) (hval 1 50 v1 rfl rfl) h1
  exact storePlays_any st tx W (intssAt_of hst) (strsAt_of htx) hgl

set_option maxRecDepth 100000 in
theorem storePlays_lifted (os : Os) (started : os.Started) (H : Type) (enc : TypeId × Value → H) :
    ReturnsInHanded {} Tryd.checked os 5 .any (fun w args => (Rows.storePlaysSpec.pre enc Tryd.checked.prog Tryd.f5 [] false w args ∧ laidMetH Tryd.prog theLaid w) ∧ sizedMet enc Tryd.checked.prog Tryd.f5 (OpenSpec.ofChange Rows.storePlaysSpec) false w args) (Rows.storePlaysSpec.post enc Tryd.checked.prog Tryd.f5 false true false false) :=
  laid_lifted (C := Tryd.checked) theLaid (fun _ h => handle_of_laid h) [] Tryd.own started (by kernel_rfl) Tryd.func5 Tryd.laidOut (by kernel_rfl) rfl Tryd.underlying4 rfl (fun ds h => by match ds, h with | [_, _], _ => rfl)
    (ChangeSpec.witness_at (enc := enc) (C := Tryd.checked) (os := os) (X := fun w _ => laidMetH Tryd.prog theLaid w) false (laidWorld os) #[.slice none 0 0, .slice none 0 0] 8 rfl (by kernel_rfl) (by kernel_rfl) (by kernel_rfl) (by kernel_rfl) (by kernel_rfl) (laidWorld_met os _)) storePlays_walk

theorem storePlays_row : Rows.StorePlaysSaid :=
  OpenClaim.holds_of_wide 5 Tryd.f5 rfl rfl rfl rfl rfl rfl rfl ⟨rfl, rfl, rfl, rfl, rfl⟩ rfl rfl rfl rfl rfl (by kernel_rfl) Tryd.func5 (by kernel_rfl)
    (of_decide_eq_true (by kernel_rfl)) (by unfold Func.isWrapper; rw [if_neg (of_decide_eq_false (by kernel_rfl))]; exact ⟨rfl, rfl⟩)
    (fun os started H enc _ => storePlays_lifted os started H enc)

theorem storePlays_holds : Rows.StorePlaysCardSaid :=
  Claim7.holds_tied_plain_at .later [] [.handle] true _ true
    storePlays_row (fun _ h => by cases h) (by kernel_rfl) (fun _ h => by cases h) storePlays_row_tie rfl ⟨rfl, rfl⟩ (by kernel_rfl) rfl
    (fun f fn hf hfn => by
      obtain rfl : f = 5 := Option.some.inj ((show Tryd.prog.funcNamed "beaconmere/merelaw1.StorePlays" = some 5 by kernel_rfl).symm.trans hf) |>.symm
      obtain rfl : fn = Tryd.f5 := (Option.some.inj (Tryd.func5.symm.trans hfn)).symm
      refine ⟨by kernel_rfl, fun j t ht => ?_⟩
      have hall : Tryd.f5.params.toList.all (fun t => !Tryd.prog.wantsStandIn t) = true := by kernel_rfl
      have hm : t ∈ Tryd.f5.params.toList := by
        obtain ⟨hj, hje⟩ := Array.getElem?_eq_some_iff.1 ht
        rw [← hje]
        exact Array.mem_toList_iff.2 (Array.getElem_mem hj)
      have := List.all_eq_true.1 hall t hm
      exact (show Tryd.prog.wantsStandIn t = false by simpa using this))
    (by kernel_rfl)

end Go.Proofs.YtdnkegcffmjemaaDoor
