/-
  PROVED HERE: merelaw2.MailPlays returns true: anything that is sent, comes, is lost, doubled or cut is refused, and kept, as the document says. CONDITIONS: errors.errorType as the program's text lays it (tied by the card).
-/
import Derived.Test.YtgamocljdbffpaaDoorMailCt
import Derived.Test.YtgamocljdbffpaaDoorRMail2
import Derived.Test.YtgamocljdbffpaaDoorLtEq
import Derived.Test.YtgamocljdbffpaaDoorLtLd
import Derived.Test.YtgamocljdbffpaaDoorRm48
import Derived.Test.YtgamocljdbffpaaDoorDoor
import Derived.Deep.CutBlock
namespace Go.Proofs.YtgamocljdbffpaaDoor
open Go.RowKit
open Go.ChangeShapes Go.WideShapes Go.ChangeAt

/-- the two mails lie apart -/
def ApM (s bm g : Nat) (v u : Value) : Prop := ∀ i, FM s bm v i → ¬ FR g u i
theorem deedR {B s bm g nc : Nat} {w w' : World} {v u : Value} {L L' : List Lt} {C C' : Int → Int → Bool} {ret : Value} {e : Ending} (hM : MailO B w s bm v L nc C) (hA : ApM s bm g v u) (h : RRes B g u w ret L' C' e w') :
    ∃ u', e = .returned ret ∧ RMO B w' g u' L' C' ∧ MailO B w' s bm v L nc C ∧ ApM s bm g v u' ∧ Fr (FR g u) w w' := by
  obtain ⟨u', he, hO, hF, ho⟩ := h
  refine ⟨u', he, hO, hM.fr hF (fun i hi hr => hA i hi hr), fun i hi hr => ?_, hF⟩
  rcases hr with rfl | hr
  · exact hA _ hi (.inl rfl)
  · rcases ho with o | o
    · exact hA i hi (.inr (by rw [hr, o]))
    · have h1 := o i hr.symm
      have h2 := (hM.fml hi).2
      omega
theorem deedM {B s bm g nc' : Nat} {w w' : World} {v u : Value} {L2 L' : List Lt} {C2 C' : Int → Int → Bool} {ret : Value} {e : Ending} (hR : RMO B w g u L2 C2) (hA : ApM s bm g v u) (h : MRes B s bm v w ret L' nc' C' e w') :
    ∃ v', e = .returned ret ∧ MailO B w' s bm v' L' nc' C' ∧ RMO B w' g u L2 C2 ∧ ApM s bm g v' u ∧ Fr (FM s bm v) w w' := by
  obtain ⟨v', he, hO, hF, ho⟩ := h
  refine ⟨v', he, hO, hR.fr hF (fun i hi hr => hA i hr hi), fun i hi hr => ?_, hF⟩
  rcases hi with rfl | rfl | hi
  · exact hA _ (.inl rfl) hr
  · exact hA _ (.inr (.inl rfl)) hr
  · rcases ho with o | ⟨k, o, hk⟩
    · exact hA i (.inr (.inr (by rw [hi, o]))) hr
    · rw [o] at hi; cases hi
      have := (hR.frl hr).2
      omega
/-- both alike, and apart -/
def TwoM (B s bm g : Nat) (w : World) (L : List Lt) (nc : Nat) (C : Int → Int → Bool) : Prop := ∃ v u, MailO B w s bm v L nc C ∧ RMO B w g u L C ∧ ApM s bm g v u
theorem TwoM.belowS {B s bm g nc : Nat} {w w' : World} {L : List Lt} {C : Int → Int → Bool} (h : TwoM B s bm g w L nc C) (hb : Below w.heap.size w w') : TwoM B s bm g w' L nc C := by
  obtain ⟨v, u, h1, h2, h3⟩ := h
  exact ⟨v, u, h1.belowS hb, h2.belowS hb, h3⟩
theorem FMfr {B s bm nc : Nat} {w0 w w' : World} {v : Value} {L : List Lt} {C : Int → Int → Bool} (hM : MailO B w s bm v L nc C) (hF : Fr (FM s bm v) w w') (hB : w0.heap.size ≤ B) (hb : Below w0.heap.size w0 w) : Below w0.heap.size w0 w' :=
  hb.trans (hF.below0 hb.size (fun _ hi => Nat.le_trans hB (hM.fml hi).1))
theorem FRfr {B g : Nat} {w0 w w' : World} {u : Value} {L : List Lt} {C : Int → Int → Bool} (hR : RMO B w g u L C) (hF : Fr (FR g u) w w') (hB : w0.heap.size ≤ B) (hb : Below w0.heap.size w0 w) : Below w0.heap.size w0 w' :=
  hb.trans (hF.below0 hb.size (fun _ hi => Nat.le_trans hB (hR.frl hi).1))

/-- what a step leaves -/
def MPost (w w1 : World) (len nc : Nat) (at_ told : Value) (wx : World) : Prop :=
  ∃ (a' nc' : Nat) (L' : List Lt) (C' : Int → Int → Bool), at_ = .int .i64 a' ∧ told = .bool true ∧ a' ≤ len ∧ nc' ≤ nc + 1 ∧ TwoM w.heap.size (w.heap.size + 1) w.heap.size w1.heap.size wx L' nc' C' ∧ Below w.heap.size w wx
/-- the entry that comes next -/
def NextE (len : Nat) (we : World) (at_ : Value) (wx : World) : Prop :=
  ∃ (a' : Nat) (y : E), at_ = .int .i64 a' ∧ a' ≤ len ∧ y.good ∧ Blk wx we.heap.size 35 #[.int .i64 y.key, .int .i64 y.ver, .int .i64 y.asof, .bool y.gone, .string y.text] ∧ Below we.heap.size we wx
theorem E.zero_good : E.zero.good := by unfold E.good E.zero; decide

set_option maxHeartbeats 16000000 in
set_option maxRecDepth 100000 in
theorem mailPlays_any (st : SlV (SlV Int)) (l : SlV E) (w : World) (hst : IntssAt w st) (hes : EntriesAt w l) (hgl : Gl w) :
    Calls Tryd.prog 3 #[.slice st.A st.xs.length st.c, .slice l.A l.xs.length l.c] w fun e w' => e = .returned (.bool true) ∧ Below w.heap.size w w' := by
  have hg0 := hgl.lt
  have hlen := hst.len
  have hlel := hes.len
  unfold maxLen at hlen hlel
  go_enter Tryd.func3, Tryd.ntmps3
  go_wp2_with fail
  refine (mnew_any _).mono ?_
  rintro e w1 ⟨rfl, hO1, hb1⟩
  have hz1 := hb1.size
  have hl1 := hO1.blk.lt
  have hT1 : TwoM w.heap.size (w.heap.size + 1) w.heap.size w1.heap.size (w1.alloc (.cells #[.slice none 0 0, .bool false, .bool false, .bool false, .bool false, .bool false, .bool false, .bool false, .bool false, .bool false, .bool false, .bool false, .bool false, .bool false, .bool false, .bool false, .bool false, .bool false, .bool false, .bool false, .bool false, .bool false, .bool false, .bool false, .bool false, .bool false, .bool false, .bool false, .bool false, .bool false, .bool false, .bool false, .bool false, .bool false, .bool false, .bool false, .bool false] 31)) [] 0 (fun _ _ => false) := by
    refine ⟨_, .slice none 0 0, hO1.belowS ((Below.refl _ _).alloc (Nat.le_refl _) _), ⟨⟨_, Blk.new _ _ _, rfl, rfl, fun a b ha hb => ?_⟩, Ow.nil _ _ _ _ _, (fun h => by cases h), (fun y hy => by cases hy), by simp, by omega⟩, fun i hi hr => ?_⟩
    · rcases (show a = 0 ∨ a = 1 ∨ a = 2 ∨ a = 3 ∨ a = 4 ∨ a = 5 by omega) with rfl | rfl | rfl | rfl | rfl | rfl
      all_goals
        rcases (show b = 0 ∨ b = 1 ∨ b = 2 ∨ b = 3 ∨ b = 4 ∨ b = 5 by omega) with rfl | rfl | rfl | rfl | rfl | rfl
        all_goals rfl
    · rcases hr with rfl | hr
      · have := (hO1.fml hi).2; omega
      · cases hr
  have HT1 := hid hT1
  have hbel1 := hid (show Below w.heap.size w (w1.alloc (.cells #[.slice none 0 0, .bool false, .bool false, .bool false, .bool false, .bool false, .bool false, .bool false, .bool false, .bool false, .bool false, .bool false, .bool false, .bool false, .bool false, .bool false, .bool false, .bool false, .bool false, .bool false, .bool false, .bool false, .bool false, .bool false, .bool false, .bool false, .bool false, .bool false, .bool false, .bool false, .bool false, .bool false, .bool false, .bool false, .bool false, .bool false, .bool false] 31)) from hb1.alloc (by omega) _)
  clear hO1 hb1 hT1
  go_wp2_with fail
  obtain ⟨big, hbig⟩ : ∃ big : Value, big = .agg #[.slice none 0 0, .bool false, .bool false, .bool false, .bool false, .bool false, .bool false, .bool false, .bool false, .bool false, .bool false, .bool false, .bool false, .bool false, .bool false, .bool false, .bool false, .bool false, .bool false, .bool false, .bool false, .bool false, .bool false, .bool false, .bool false, .bool false, .bool false, .bool false, .bool false, .bool false, .bool false, .bool false, .bool false, .bool false, .bool false, .bool false, .bool false] := ⟨_, rfl⟩
  rw [← hbig]
  clear hbig
  go_loopw [7, 8] (fun at_ i wr => ∃ (n a nc : Nat) (L : List Lt) (C : Int → Int → Bool), n ≤ 150 ∧ i = .int .i64 n ∧ at_ = .int .i64 a ∧ a ≤ l.xs.length ∧ nc ≤ n ∧ TwoM w.heap.size (w.heap.size + 1) w.heap.size w1.heap.size wr L nc C ∧ Below w.heap.size w wr ∧ w1.heap.size < wr.heap.size)
    (fun _ i _ => 150 - (intOf i).toNat)
  case atStart => exact ⟨0, 0, 0, [], _, by omega, rfl, rfl, Nat.zero_le _, Nat.le_refl _, HT1.out, hbel1.out, by simp⟩
  case round =>
    obtain ⟨n, a, nc, L, C, hn, rfl, rfl, hal, hnc, hT, hbr, hzw⟩ := hrel
    clear HT1 hbel1
    by_cases hn1 : n < st.xs.length
    · by_cases hn2 : n < 150
      · obtain ⟨b, off, hA, hb, hcells⟩ := hst.row (by omega)
        have hcell := hcells n hn1
        have hin := hst.each n hn1
        rw [← hbr.cell (p := ⟨b, off + n, none⟩) hb] at hcell
        have HA := hid hA
        rw [hA]
        generalize hrw : st.xs[n] = rw_ at *
        clear hcells hA
        obtain ⟨wo, rfl⟩ : ∃ wo : World, wo = wr := ⟨_, rfl⟩
        have hzr := hbr.size
        have hVlt : w.heap.size < wo.heap.size := by obtain ⟨_, _, h, _⟩ := hT; have := h.blk.lt; omega
        go_upto_block 2 with fail
        go_cut [] (fun wx => ∃ vs : List Int, vs.length = 3 ∧ Blk wx wo.heap.size 32 (ints vs) ∧ Fr (fun x => x = wo.heap.size) (wo.alloc (.cells (ints [0, 0, 0]) 32)) wx)
        case first =>
          have hV0 : Blk (wo.alloc (.cells (ints [0, 0, 0]) 32)) wo.heap.size 32 (ints [0, 0, 0]) := Blk.new _ _ _
          go_wp2_with fail
          go_loopw [10] (fun j w2 => ∃ (m : Nat) (vs : List Int), m ≤ 3 ∧ m ≤ rw_.xs.length ∧ j = .int .i64 m ∧ vs.length = 3 ∧ Blk w2 wo.heap.size 32 (ints vs) ∧ Fr (fun x => x = wo.heap.size) (wo.alloc (.cells (ints [0, 0, 0]) 32)) w2)
            (fun j _ => 3 - (intOf j).toNat)
          case atStart => exact ⟨0, [0, 0, 0], by omega, by omega, rfl, rfl, hV0, Fr.refl _ _⟩
          case round =>
            obtain ⟨m, vs, hm3, hml, rfl, hvl, hVb, hVf⟩ := hrel
            have hcell2 := (hVf.cell (p := ⟨b, off + n, none⟩) (by simp; omega) (by simp; omega)).trans ((World.cell?_alloc_lt wo _ ⟨b, off + n, none⟩ (by simp; omega)).trans hcell)
            by_cases hm1 : m < rw_.xs.length
            · by_cases hm2 : m < 3
              · obtain ⟨b2, off2, hA2, hb2, hcells2⟩ := hin.row (by omega)
                have hx := hcells2 m hm1
                have hx2 := (hVf.cell (p := ⟨b2, off2 + m, none⟩) (by simp; omega) (by simp; omega)).trans ((World.cell?_alloc_lt wo _ ⟨b2, off2 + m, none⟩ (by simp; omega)).trans ((hbr.cell (p := ⟨b2, off2 + m, none⟩) hb2).trans hx))
                rw [hA2] at hcell2
                generalize rw_.xs.getD m 0 = x at *
                have hv : _ = some (Value.int .i64 (vs.getD m 0)) := (hVb.cell m).trans (ints_get vs m (by omega))
                have hvf := hVb.frozen m
                have hVb' := hVb.put m (.int .i64 x)
                rw [ints_set] at hVb'
                have hVf' := Fr.setCell (S := fun x => x = wo.heap.size) hVf (p := ⟨wo.heap.size, m, none⟩) (.inl rfl) (.int .i64 x)
                have HV := hid (And.intro hVb' hVf')
                clear hcells2 hA2 hx hVb' hVf'
                go_wp2_with fail
                go_roundw
                case rel => exact ⟨m + 1, _, by omega, by omega, by go_num, by simpa using hvl, HV.out.1, HV.out.2⟩
                case measure => simp [intOf]; omega
              · go_wp2_with fail
                go_meet
                exact ⟨vs, hvl, hVb, hVf⟩
            · go_wp2_with fail
              go_meet
              exact ⟨vs, hvl, hVb, hVf⟩
        case rest =>
          obtain ⟨vs, hvl, hVb, hVf⟩ := hcut
          obtain ⟨x0, x1, x2, rfl⟩ : ∃ x0 x1 x2, vs = [x0, x1, x2] := by
            match vs, hvl with
            | [x0, x1, x2], _ => exact ⟨x0, x1, x2, rfl⟩
          have cv0 : wc.cell? ⟨wo.heap.size, 0, none⟩ = some (.int .i64 x0) := hVb.cell 0
          have cv1 : wc.cell? ⟨wo.heap.size, 1, none⟩ = some (.int .i64 x1) := hVb.cell 1
          have cv2 : wc.cell? ⟨wo.heap.size, 2, none⟩ = some (.int .i64 x2) := hVb.cell 2
          have hbo : Below wo.heap.size wo wc := ((Below.refl _ _).alloc (Nat.le_refl _) _).trans (hVf.below (by simp) (fun i hi e => by omega))
          have hbc : Below w.heap.size w wc := Below.step hbr hbo (by omega)
          have hVc := hVb.lt
          have hzo := hbo.size
          obtain ⟨wd, rfl⟩ : ∃ wd : World, wd = wc := ⟨_, rfl⟩
          have Hbr := hid hbr
          have Hbc := hid hbc
          have HVb := hid hVb
          obtain ⟨v, u, hM0, hR0, hAp⟩ := hT
          have HFM := hid (fun i (hi : FM (w.heap.size + 1) w.heap.size v i) => hM0.fml hi)
          have HFR := hid (fun i (hi : FR w1.heap.size u i) => hR0.frl hi)
          have hM := hM0.belowS hbo
          have hR := hR0.belowS hbo
          clear hM0 hR0
          obtain ⟨Au, cu, hu, hlc, hcm, -⟩ := hR.own.form
          subst hu
          have hc0 := hR.c0
          have hglt := hR.lt
          have hls := hR.lens
          have HM := hid hM
          have HR := hid hR
          have HAp := hid hAp
          clear hVf hcell hin hbr hbo hbc hVb hM hR hAp
          unfold maxLen at hcm
          go_upto_region 12 with fail
          obtain ⟨ib, hib⟩ : ∃ ib, inB x1 L.length = ib := ⟨_, rfl⟩
          have Hib := hid hib
          go_cut [11] (fun t wx => t = .bool ib ∧ ∃ k, wx = wd.drewN k)
          case first =>
            as_aux_lemma =>
            rcases (show x1 < 0 ∨ (0 ≤ x1 ∧ (L.length : Int) ≤ x1) ∨ (0 ≤ x1 ∧ x1 < (L.length : Int)) by omega) with h | ⟨h, h2⟩ | ⟨h, h2⟩
            all_goals
              have HI := hid (show ib = decide (0 ≤ x1 ∧ x1 < (L.length : Int)) by rw [← Hib.out, Bool.eq_iff_iff, inB_true, decide_eq_true_eq])
              clear hib
              try (have hd : decide (0 ≤ x1) = false := decide_eq_false (by omega))
              go_wp2_with fail
              go_quiet (fail)
              go_wp2_with fail
              go_meet
              exact ⟨by rw [HI.out]; first | (simp; omega) | simp [*], _, rfl⟩
          case rest =>
          obtain ⟨rfl, kd, hwc⟩ := hcut
          obtain ⟨we, rfl⟩ : ∃ we : World, we = wc := ⟨_, rfl⟩
          have hde : Below wd.heap.size wd we := by rw [hwc]; exact Below.manyDrew (Below.refl _ _) _
          have HMe := hid (HM.out.belowS hde)
          have HRe := hid (HR.out.belowS hde)
          have HVe := hid (HVb.out.belowS hde)
          have Hbe := hid (Below.step Hbc.out hde Hbc.out.size)
          have hze := hde.size
          have hgle := HRe.out.lt
          have e1 : we.cell? ⟨wo.heap.size, 1, none⟩ = some (.int .i64 x1) := HVe.out.cell 1
          have e2 : we.cell? ⟨wo.heap.size, 2, none⟩ = some (.int .i64 x2) := HVe.out.cell 2
          have e0 : we.cell? ⟨wo.heap.size, 0, none⟩ = some (.int .i64 x0) := HVe.out.cell 0
          have hvl : wo.heap.size < we.heap.size := HVe.out.lt
          have hge : Gl we := hgl.below Hbe.out hg0
          have Hge := hid hge
          have Hnc := hid hnc
          clear cv0 cv1 cv2 hde hwc hib HM HR HVb hc0 hglt hge hnc
          obtain ⟨tb, htb⟩ : ∃ tb, tb = decide (x0 = 0 ∨ x0 = 1 ∨ x0 = 2) := ⟨_, rfl⟩
          have Htb := hid htb
          have Hee := hid (fun (e0 : Int) (W : World) (hW : Below w.heap.size w W) => error_any e0 e0 W (hgl.below hW hg0))
          clear htb
          go_upto_block 4 with fail
          go_cut [7, 13] (fun at_ told wx => MPost w w1 l.xs.length nc at_ told wx)
          case first =>
            go_upto_if 99 with fail
            go_cut [99] (fun t wx => t = .bool tb ∧ wx = we)
            case first =>
              rcases (show x0 = 0 ∨ x0 = 1 ∨ x0 = 2 ∨ (¬ x0 = 0 ∧ ¬ x0 = 1 ∧ ¬ x0 = 2) by omega) with h | h | h | ⟨h0, h1, h2⟩
              · have HT := hid (show tb = true by rw [Htb.out]; exact decide_eq_true (.inl h))
                have b0 : (x0 == 0) = true := by rw [beq_iff_eq]; exact h
                clear h
                go_wp2_with fail
                go_meet
                exact ⟨by rw [HT.out, b0], rfl⟩
              · have HT := hid (show tb = true by rw [Htb.out]; exact decide_eq_true (.inr (.inl h)))
                have b0 : (x0 == 0) = false := by rw [beq_eq_false_iff_ne]; omega
                have b1 : (x0 == 1) = true := by rw [beq_iff_eq]; exact h
                clear h
                go_wp2_with fail
                go_meet
                exact ⟨by rw [HT.out], rfl⟩
              · have HT := hid (show tb = true by rw [Htb.out]; exact decide_eq_true (.inr (.inr h)))
                have b0 : (x0 == 0) = false := by rw [beq_eq_false_iff_ne]; omega
                have b1 : (x0 == 1) = false := by rw [beq_eq_false_iff_ne]; omega
                have b2 : (x0 == 2) = true := by rw [beq_iff_eq]; exact h
                clear h
                go_wp2_with fail
                go_meet
                exact ⟨by rw [HT.out], rfl⟩
              · have HT := hid (show tb = false by rw [Htb.out]; exact decide_eq_false (by omega))
                have b0 : (x0 == 0) = false := by rw [beq_eq_false_iff_ne]; exact h0
                have b1 : (x0 == 1) = false := by rw [beq_eq_false_iff_ne]; exact h1
                have b2 : (x0 == 2) = false := by rw [beq_eq_false_iff_ne]; exact h2
                clear h0 h1 h2
                go_wp2_with fail
                go_meet
                exact ⟨by rw [HT.out], rfl⟩
            case rest =>
            obtain ⟨rfl, hwc⟩ := hcut
            obtain rfl : we = wc := hwc.symm
            rcases tb with _ | _
            · have hno := of_decide_eq_false Htb.out.symm
              rcases (show x0 = 3 ∨ x0 = 4 ∨ x0 = 5 ∨ (¬ x0 = 3 ∧ ¬ x0 = 4 ∧ ¬ x0 = 5) by omega) with h | h | h | ⟨h, h4, h5⟩
              · --B
                as_aux_lemma =>
                have b3 : (x0 == 3) = true := by rw [beq_iff_eq]; exact h
                clear h
                rcases ib with _ | _
                · have HG := hid (fun v W (hW : MailO w.heap.size W (w.heap.size + 1) w.heap.size v L nc C) => show Calls Tryd.prog 11 #[.pointer (some ⟨w.heap.size + 1, 0, none⟩), .int .i64 x1] W (MRes w.heap.size (w.heap.size + 1) w.heap.size v W (.tuple #[.agg #[.int .i64 0, .int .i64 0, .int .i64 0, .int .i64 0, .int .i64 0, .bool false, .string ⟨#[]⟩], .iface 86 (.int .i64 1)]) L nc C) from by
                    have := mgive_any w.heap.size (w.heap.size + 1) w.heap.size nc x1 v L C W hW
                    rw [giveY, giveE, giveL, if_neg (by rw [Hib.out]; decide), if_neg (by rw [Hib.out]; decide), if_neg (by rw [Hib.out]; decide), errV_ne (show (1 : Int) ≠ 0 by decide)] at this
                    exact this)
                  have HX := hid (Blk.new we 37 #[.int .i64 0, .int .i64 0, .int .i64 0, .int .i64 0, .int .i64 0, .bool false, .string ⟨#[]⟩])
                  have hbX : Below we.heap.size we (we.alloc (.cells #[.int .i64 0, .int .i64 0, .int .i64 0, .int .i64 0, .int .i64 0, .bool false, .string ⟨#[]⟩] 37)) := (Below.refl _ _).alloc (Nat.le_refl _) _
                  have HMx := hid (HMe.out.belowS hbX)
                  have HRx := hid (HRe.out.belowS hbX)
                  have Hbx := hid (Below.step Hbe.out hbX Hbe.out.size)
                  clear hbX
                  go_wp2_with fail
                  refine (HG.out _ _ HMx.out).mono ?_
                  intro e w7 h7
                  obtain ⟨v7, rfl, hM7, hR7, hA7, hF7⟩ := deedM HRx.out HAp.out h7
                  have hX7 := HX.out.fr hF7 (fun h => by have := (HFM.out _ h).2; omega)
                  have hb7 := FMfr HMx.out hF7 (Nat.le_refl _) Hbx.out
                  have HX7 := hid (hX7.alloc (.cells #[.int .i64 0, .int .i64 0, .int .i64 0, .int .i64 0, .int .i64 0, .bool false, .string ⟨#[]⟩] 37))
                  have HY7 := hid (Blk.new w7 37 #[.int .i64 0, .int .i64 0, .int .i64 0, .int .i64 0, .int .i64 0, .bool false, .string ⟨#[]⟩])
                  have HT7 := hid (show TwoM w.heap.size (w.heap.size + 1) w.heap.size w1.heap.size (w7.alloc (.cells #[.int .i64 0, .int .i64 0, .int .i64 0, .int .i64 0, .int .i64 0, .bool false, .string ⟨#[]⟩] 37)) L nc C from TwoM.belowS ⟨v7, _, hM7, hR7, hA7⟩ ((Below.refl _ _).alloc (Nat.le_refl _) _))
                  have Hb7 := hid (hb7.alloc hb7.size (.cells #[.int .i64 0, .int .i64 0, .int .i64 0, .int .i64 0, .int .i64 0, .bool false, .string ⟨#[]⟩] 37))
                  have hE := Hee.out 1 _ Hb7.out
                  rw [errV_ne (show (1 : Int) ≠ 0 by decide)] at hE
                  have HE := hid hE
                  clear h7 hF7 hX7 hb7 hM7 hR7 hA7 hE e0 e1 e2
                  go_wp2_with fail
                  refine HE.out.mono ?_
                  rw [beq_self_eq_true]
                  rintro e w9 ⟨rfl, hb9⟩
                  have hX9 := HX7.out.belowS hb9
                  have hY9 := HY7.out.belowS hb9
                  have Hb9 := hid hb9
                  have m0 := hX9.cell 0
                  have m1 := hX9.cell 1
                  have m2 := hX9.cell 2
                  have m3 := hX9.cell 3
                  have m4 := hX9.cell 4
                  have m5 := hX9.cell 5
                  have m6 := hX9.cell 6
                  have q0 := hY9.cell 0
                  have q1 := hY9.cell 1
                  have q2 := hY9.cell 2
                  have q3 := hY9.cell 3
                  have q4 := hY9.cell 4
                  have q5 := hY9.cell 5
                  have q6 := hY9.cell 6
                  simp at m0 m1 m2 m3 m4 m5 m6 q0 q1 q2 q3 q4 q5 q6
                  have heq := fun W => eqRunLt 0 0 0 0 0 false ⟨#[]⟩ 0 0 0 0 0 false ⟨#[]⟩ W
                  rw [eqbLt_refl] at heq
                  clear hb9 hX9 hY9
                  go_wp2_with fail
                  go_meet
                  exact ⟨a, nc, L, C, rfl, rfl, hal, by omega, HT7.out.belowS Hb9.out, Below.step Hb7.out Hb9.out Hb7.out.size⟩
                · --B1
                  obtain ⟨i0, i1⟩ := inB_true.1 Hib.out
                  obtain ⟨k, rfl⟩ := Int.eq_ofNat_of_zero_le i0
                  have hk : k < L.length := by omega
                  obtain ⟨gu, off2, c2, hv, hlc2, -, hbg, hgl2, hfo, hcl, -⟩ := HRe.out.own.get (by omega)
                  have hyg := HRe.out.good _ (List.getElem_mem hk)
                  injection hv with hv1 _ hv2
                  subst hv1 hv2
                  have c0 := HRe.out.c0
                  have k0 : we.cell? ⟨gu, off2 + k * 7, none⟩ = some (.int .i64 L[k].frm) := hcl k hk 0 (by decide)
                  have k1 : we.cell? ⟨gu, off2 + k * 7 + 1, none⟩ = some (.int .i64 L[k].dst) := hcl k hk 1 (by decide)
                  have k2 : we.cell? ⟨gu, off2 + k * 7 + 2, none⟩ = some (.int .i64 L[k].key) := hcl k hk 2 (by decide)
                  have k3 : we.cell? ⟨gu, off2 + k * 7 + 3, none⟩ = some (.int .i64 L[k].ver) := hcl k hk 3 (by decide)
                  have k4 : we.cell? ⟨gu, off2 + k * 7 + 4, none⟩ = some (.int .i64 L[k].asof) := hcl k hk 4 (by decide)
                  have k5 : we.cell? ⟨gu, off2 + k * 7 + 5, none⟩ = some (.bool L[k].gone) := hcl k hk 5 (by decide)
                  have k6 : we.cell? ⟨gu, off2 + k * 7 + 6, none⟩ = some (.string L[k].text) := hcl k hk 6 (by decide)
                  have hgd := hid (getD_get Lt.zero hk)
                  generalize hy : L[k] = y at *
                  obtain ⟨y0, y1, y2, y3, y4, y5, y6⟩ := y
                  simp only at k0 k1 k2 k3 k4 k5 k6
                  have hk0 : (0 : Int) ≤ (k : Int) := by omega
                  have hk1 : (k : Int) < (L.length : Int) := by omega
                  have hgu : gu < we.heap.size := hgl2
                  clear hcl hy hgl2 hbg
                  have HG := hid (fun v W (hW : MailO w.heap.size W (w.heap.size + 1) w.heap.size v L nc C) => show Calls Tryd.prog 11 #[.pointer (some ⟨w.heap.size + 1, 0, none⟩), .int .i64 k] W (MRes w.heap.size (w.heap.size + 1) w.heap.size v W (.tuple #[.agg #[.int .i64 y0, .int .i64 y1, .int .i64 y2, .int .i64 y3, .int .i64 y4, .bool y5, .string y6], .nilIface]) (Lt.out L k) nc C) from by
                    have := mgive_any w.heap.size (w.heap.size + 1) w.heap.size nc k v L C W hW
                    rw [giveY, giveE, giveL, if_pos Hib.out, if_pos Hib.out, if_pos Hib.out, errV_zero, Int.toNat_natCast, hgd.out] at this
                    exact this)
                  go_upto_region 34 with fail
                  go_cut [] (fun wx => Blk wx we.heap.size 37 #[.int .i64 y0, .int .i64 y1, .int .i64 y2, .int .i64 y3, .int .i64 y4, .bool y5, .string y6] ∧ Below we.heap.size we wx)
                  case first =>
                    have hX0 := Blk.new we 37 #[.int .i64 0, .int .i64 0, .int .i64 0, .int .i64 0, .int .i64 0, .bool false, .string ⟨#[]⟩]
                    have z0 := hX0.frozen 0
                    have z1 := hX0.frozen 1
                    have z2 := hX0.frozen 2
                    have z3 := hX0.frozen 3
                    have z4 := hX0.frozen 4
                    have z5 := hX0.frozen 5
                    have z6 := hX0.frozen 6
                    go_region_law (fail)
                    all_goals
                      go_wp2_with fail
                      go_meet
                      first
                        | exact ⟨Blk.new _ _ _, (Below.refl _ _).alloc (Nat.le_refl _) _⟩
                        | exact ⟨(Blk.new _ _ _).drew, ((Below.refl _ _).alloc (Nat.le_refl _) _).drew⟩
                        | exact ⟨(Blk.new _ _ _).drewN _, Below.manyDrew ((Below.refl _ _).alloc (Nat.le_refl _) _) _⟩
                  case rest =>
                  obtain ⟨hX6, hb6⟩ := hcut
                  obtain ⟨w6, rfl⟩ : ∃ w6 : World, w6 = wc := ⟨_, rfl⟩
                  have hV6 := HVe.out.belowS hb6
                  have f1 : w6.cell? ⟨wo.heap.size, 1, none⟩ = some (.int .i64 k) := hV6.cell 1
                  have HM6 := hid (HMe.out.belowS hb6)
                  have HR6 := hid (HRe.out.belowS hb6)
                  have HX6 := hid hX6
                  have HV6 := hid hV6
                  have Hb6 := hid (Below.step Hbe.out hb6 Hbe.out.size)
                  have HO := hid (rmout_any w.heap.size w1.heap.size k _ L C w6 HR6.out hk)
                  clear hX6 hb6 hV6 k0 k1 k2 k3 k4 k5 k6 c0 e0 e1 e2 hyg
                  go_wp2_with fail
                  refine HO.out.mono ?_
                  intro e w7 h7
                  obtain ⟨u7, rfl, hR7, hM7, hA7, hF7⟩ := deedR HM6.out HAp.out h7
                  have hX7 := HX6.out.fr hF7 (fun h => by have := (HFR.out _ h).2; omega)
                  have hV7 := HV6.out.fr hF7 (fun h => by have := (HFR.out _ h).2; omega)
                  have hb7 := FRfr HR6.out hF7 (Nat.le_refl _) Hb6.out
                  have g1 : w7.cell? ⟨wo.heap.size, 1, none⟩ = some (.int .i64 k) := hV7.cell 1
                  have HX7 := hid hX7
                  have HR7 := hid hR7
                  have HM7 := hid hM7
                  have HA7 := hid hA7
                  have Hb7 := hid hb7
                  clear h7 hF7 hX7 hV7 hb7 hR7 hM7 hA7 f1
                  go_wp2_with fail
                  refine (HG.out _ _ HM7.out).mono ?_
                  intro e w8 h8
                  obtain ⟨v8, rfl, hM8, hR8, hA8, hF8⟩ := deedM HR7.out HA7.out h8
                  have hX8 := HX7.out.fr hF8 (fun h => by have := (HFM.out _ h).2; omega)
                  have hb8 := FMfr HM7.out hF8 (Nat.le_refl _) Hb7.out
                  have HX8 := hid (hX8.alloc (.cells #[.int .i64 y0, .int .i64 y1, .int .i64 y2, .int .i64 y3, .int .i64 y4, .bool y5, .string y6] 37))
                  have HY8 := hid (Blk.new w8 37 #[.int .i64 y0, .int .i64 y1, .int .i64 y2, .int .i64 y3, .int .i64 y4, .bool y5, .string y6])
                  have HT8 := hid (show TwoM w.heap.size (w.heap.size + 1) w.heap.size w1.heap.size (w8.alloc (.cells #[.int .i64 y0, .int .i64 y1, .int .i64 y2, .int .i64 y3, .int .i64 y4, .bool y5, .string y6] 37)) (Lt.out L k) nc C from TwoM.belowS ⟨v8, u7, hM8, hR8, hA8⟩ ((Below.refl _ _).alloc (Nat.le_refl _) _))
                  have Hb8 := hid (hb8.alloc hb8.size (.cells #[.int .i64 y0, .int .i64 y1, .int .i64 y2, .int .i64 y3, .int .i64 y4, .bool y5, .string y6] 37))
                  have hE := Hee.out 0 _ Hb8.out
                  rw [errV_zero] at hE
                  have HE := hid hE
                  clear h8 hF8 hX8 hb8 hM8 hR8 hA8 hE g1
                  go_wp2_with fail
                  refine HE.out.mono ?_
                  rw [beq_self_eq_true]
                  rintro e w9 ⟨rfl, hb9⟩
                  have hX9 := HX8.out.belowS hb9
                  have hY9 := HY8.out.belowS hb9
                  have Hb9 := hid hb9
                  have m0 := hX9.cell 0
                  have m1 := hX9.cell 1
                  have m2 := hX9.cell 2
                  have m3 := hX9.cell 3
                  have m4 := hX9.cell 4
                  have m5 := hX9.cell 5
                  have m6 := hX9.cell 6
                  have q0 := hY9.cell 0
                  have q1 := hY9.cell 1
                  have q2 := hY9.cell 2
                  have q3 := hY9.cell 3
                  have q4 := hY9.cell 4
                  have q5 := hY9.cell 5
                  have q6 := hY9.cell 6
                  simp at m0 m1 m2 m3 m4 m5 m6 q0 q1 q2 q3 q4 q5 q6
                  have heq := fun W => eqRunLt y0 y1 y2 y3 y4 y5 y6 y0 y1 y2 y3 y4 y5 y6 W
                  rw [eqbLt_refl] at heq
                  clear hb9 hX9 hY9
                  go_wp2_with fail
                  go_meet
                  exact ⟨a, nc, _, C, rfl, rfl, hal, by omega, HT8.out.belowS Hb9.out, Below.step Hb8.out Hb9.out Hb8.out.size⟩
              · --C
                as_aux_lemma =>
                have b3 : (x0 == 3) = false := by rw [beq_eq_false_iff_ne]; omega
                have b4 : (x0 == 4) = true := by rw [beq_iff_eq]; exact h
                clear h
                rcases ib with _ | _
                · have HG := hid (fun v W (hW : MailO w.heap.size W (w.heap.size + 1) w.heap.size v L nc C) => show Calls Tryd.prog 12 #[.pointer (some ⟨w.heap.size + 1, 0, none⟩), .int .i64 x1] W (MRes w.heap.size (w.heap.size + 1) w.heap.size v W (errV 1) L nc C) from by
                    have := mlose_any w.heap.size (w.heap.size + 1) w.heap.size nc x1 v L C W hW
                    rw [giveE, giveL, if_neg (by rw [Hib.out]; decide), if_neg (by rw [Hib.out]; decide)] at this
                    exact this)
                  go_wp2_with fail
                  refine (HG.out _ _ HMe.out).mono ?_
                  intro e w7 h7
                  obtain ⟨v7, rfl, hM7, hR7, hA7, hF7⟩ := deedM HRe.out HAp.out h7
                  have hb7 := FMfr HMe.out hF7 (Nat.le_refl _) Hbe.out
                  have HT7 := hid (show TwoM w.heap.size (w.heap.size + 1) w.heap.size w1.heap.size w7 L nc C from ⟨v7, _, hM7, hR7, hA7⟩)
                  have Hb7 := hid hb7
                  clear h7 hF7 hb7 hM7 hR7 hA7 e0 e1 e2
                  go_wp2_with fail
                  refine (Hee.out 1 _ Hb7.out).mono ?_
                  rw [beq_self_eq_true]
                  rintro e w9 ⟨rfl, hb9⟩
                  have Hb9 := hid hb9
                  clear hb9
                  go_wp2_with fail
                  go_meet
                  exact ⟨a, nc, L, C, rfl, rfl, hal, by omega, HT7.out.belowS Hb9.out, Below.step Hb7.out Hb9.out Hb7.out.size⟩
                · --C1
                  obtain ⟨i0, i1⟩ := inB_true.1 Hib.out
                  obtain ⟨k, rfl⟩ := Int.eq_ofNat_of_zero_le i0
                  have hk : k < L.length := by omega
                  have HG := hid (fun v W (hW : MailO w.heap.size W (w.heap.size + 1) w.heap.size v L nc C) => show Calls Tryd.prog 12 #[.pointer (some ⟨w.heap.size + 1, 0, none⟩), .int .i64 k] W (MRes w.heap.size (w.heap.size + 1) w.heap.size v W (errV 0) (Lt.out L k) nc C) from by
                    have := mlose_any w.heap.size (w.heap.size + 1) w.heap.size nc k v L C W hW
                    rw [giveE, giveL, if_pos Hib.out, if_pos Hib.out, Int.toNat_natCast] at this
                    exact this)
                  have HO := hid (rmout_any w.heap.size w1.heap.size k _ L C we HRe.out hk)
                  go_wp2_with fail
                  refine HO.out.mono ?_
                  intro e w6 h6
                  obtain ⟨u6, rfl, hR6, hM6, hA6, hF6⟩ := deedR HMe.out HAp.out h6
                  have hV6 := HVe.out.fr hF6 (fun h => by have := (HFR.out _ h).2; omega)
                  have hb6 := FRfr HRe.out hF6 (Nat.le_refl _) Hbe.out
                  have f1 : w6.cell? ⟨wo.heap.size, 1, none⟩ = some (.int .i64 k) := hV6.cell 1
                  have HR6 := hid hR6
                  have HM6 := hid hM6
                  have HA6 := hid hA6
                  have Hb6 := hid hb6
                  clear h6 hF6 hV6 hb6 hR6 hM6 hA6 e0 e1 e2
                  go_wp2_with fail
                  refine (HG.out _ _ HM6.out).mono ?_
                  intro e w7 h7
                  obtain ⟨v7, rfl, hM7, hR7, hA7, hF7⟩ := deedM HR6.out HA6.out h7
                  have hb7 := FMfr HM6.out hF7 (Nat.le_refl _) Hb6.out
                  have HT7 := hid (show TwoM w.heap.size (w.heap.size + 1) w.heap.size w1.heap.size w7 (Lt.out L k) nc C from ⟨v7, u6, hM7, hR7, hA7⟩)
                  have Hb7 := hid hb7
                  clear h7 hF7 hb7 hM7 hR7 hA7 f1
                  go_wp2_with fail
                  refine (Hee.out 0 _ Hb7.out).mono ?_
                  rw [beq_self_eq_true]
                  rintro e w9 ⟨rfl, hb9⟩
                  have Hb9 := hid hb9
                  clear hb9
                  go_wp2_with fail
                  go_meet
                  exact ⟨a, nc, _, C, rfl, rfl, hal, by omega, HT7.out.belowS Hb9.out, Below.step Hb7.out Hb9.out Hb7.out.size⟩
              · --D
                have b3 : (x0 == 3) = false := by rw [beq_eq_false_iff_ne]; omega
                have b4 : (x0 == 4) = false := by rw [beq_eq_false_iff_ne]; omega
                have b5 : (x0 == 5) = true := by rw [beq_iff_eq]; exact h
                clear h
                rcases ib with _ | _
                · as_aux_lemma =>
                  have HG := hid (fun v W (hW : MailO w.heap.size W (w.heap.size + 1) w.heap.size v L nc C) => show Calls Tryd.prog 13 #[.pointer (some ⟨w.heap.size + 1, 0, none⟩), .int .i64 x1] W (MRes w.heap.size (w.heap.size + 1) w.heap.size v W (errV 1) L nc C) from by
                    have := mtwice_any w.heap.size (w.heap.size + 1) w.heap.size nc x1 v L C W hW
                    rw [twiceE, twiceL, if_neg (by rw [Hib.out]; decide), if_neg (by rw [Hib.out]; decide)] at this
                    exact this)
                  go_wp2_with fail
                  refine (HG.out _ _ HMe.out).mono ?_
                  intro e w7 h7
                  obtain ⟨v7, rfl, hM7, hR7, hA7, hF7⟩ := deedM HRe.out HAp.out h7
                  have hb7 := FMfr HMe.out hF7 (Nat.le_refl _) Hbe.out
                  have HT7 := hid (show TwoM w.heap.size (w.heap.size + 1) w.heap.size w1.heap.size w7 L nc C from ⟨v7, _, hM7, hR7, hA7⟩)
                  have Hb7 := hid hb7
                  clear h7 hF7 hb7 hM7 hR7 hA7 e0 e1 e2
                  go_wp2_with fail
                  refine (Hee.out 1 _ Hb7.out).mono ?_
                  rw [beq_self_eq_true]
                  rintro e w9 ⟨rfl, hb9⟩
                  have Hb9 := hid hb9
                  clear hb9
                  go_wp2_with fail
                  go_meet
                  exact ⟨a, nc, L, C, rfl, rfl, hal, by omega, HT7.out.belowS Hb9.out, Below.step Hb7.out Hb9.out Hb7.out.size⟩
                · --D1
                  obtain ⟨i0, i1⟩ := inB_true.1 Hib.out
                  obtain ⟨k, rfl⟩ := Int.eq_ofNat_of_zero_le i0
                  have hk : k < L.length := by omega
                  obtain ⟨gu, off2, c2, hv, hlc2, -, hbg, hgl2, hfo, hcl, -⟩ := HRe.out.own.get (by omega)
                  have hyg := HRe.out.good _ (List.getElem_mem hk)
                  injection hv with hv1 _ hv2
                  subst hv1 hv2
                  have c0 := HRe.out.c0
                  have k0 : we.cell? ⟨gu, off2 + k * 7, none⟩ = some (.int .i64 L[k].frm) := hcl k hk 0 (by decide)
                  have k1 : we.cell? ⟨gu, off2 + k * 7 + 1, none⟩ = some (.int .i64 L[k].dst) := hcl k hk 1 (by decide)
                  have k2 : we.cell? ⟨gu, off2 + k * 7 + 2, none⟩ = some (.int .i64 L[k].key) := hcl k hk 2 (by decide)
                  have k3 : we.cell? ⟨gu, off2 + k * 7 + 3, none⟩ = some (.int .i64 L[k].ver) := hcl k hk 3 (by decide)
                  have k4 : we.cell? ⟨gu, off2 + k * 7 + 4, none⟩ = some (.int .i64 L[k].asof) := hcl k hk 4 (by decide)
                  have k5 : we.cell? ⟨gu, off2 + k * 7 + 5, none⟩ = some (.bool L[k].gone) := hcl k hk 5 (by decide)
                  have k6 : we.cell? ⟨gu, off2 + k * 7 + 6, none⟩ = some (.string L[k].text) := hcl k hk 6 (by decide)
                  have hgd := hid (getD_get Lt.zero hk)
                  generalize hy : L[k] = y at *
                  obtain ⟨y0, y1, y2, y3, y4, y5, y6⟩ := y
                  simp only at k0 k1 k2 k3 k4 k5 k6
                  have hk0 : (0 : Int) ≤ (k : Int) := by omega
                  have hk1 : (k : Int) < (L.length : Int) := by omega
                  have hgu : gu < we.heap.size := hgl2
                  clear hcl hy hgl2 hbg
                  have HG := hid (fun v W (hW : MailO w.heap.size W (w.heap.size + 1) w.heap.size v L nc C) => show Calls Tryd.prog 13 #[.pointer (some ⟨w.heap.size + 1, 0, none⟩), .int .i64 k] W (MRes w.heap.size (w.heap.size + 1) w.heap.size v W (errV (putE L)) (putL L ⟨y0, y1, y2, y3, y4, y5, y6⟩) nc C) from by
                    have := mtwice_any w.heap.size (w.heap.size + 1) w.heap.size nc k v L C W hW
                    rw [twiceE, twiceL, if_pos Hib.out, if_pos Hib.out, Int.toNat_natCast, hgd.out] at this
                    exact this)
                  by_cases h40 : L.length = 40
                  · as_aux_lemma =>
                    have hge : (40 : Int) ≤ (L.length : Int) := by omega
                    have HG4 := hid (show putE L = 4 ∧ putL L ⟨y0, y1, y2, y3, y4, y5, y6⟩ = L from ⟨by rw [putE, if_pos h40], by rw [putL, if_pos h40]⟩)
                    rw [HG4.out.1, HG4.out.2] at HG
                    clear h40
                    go_wp2_with fail
                    refine (HG.out _ _ HMe.out).mono ?_
                    intro e w7 h7
                    obtain ⟨v7, rfl, hM7, hR7, hA7, hF7⟩ := deedM HRe.out HAp.out h7
                    have hb7 := FMfr HMe.out hF7 (Nat.le_refl _) Hbe.out
                    have HT7 := hid (show TwoM w.heap.size (w.heap.size + 1) w.heap.size w1.heap.size w7 L nc C from ⟨v7, _, hM7, hR7, hA7⟩)
                    have Hb7 := hid hb7
                    clear h7 hF7 hb7 hM7 hR7 hA7 e0 e1 e2
                    go_wp2_with fail
                    refine (Hee.out 4 _ Hb7.out).mono ?_
                    rw [beq_self_eq_true]
                    rintro e w9 ⟨rfl, hb9⟩
                    have Hb9 := hid hb9
                    clear hb9
                    go_wp2_with fail
                    go_meet
                    exact ⟨a, nc, L, C, rfl, rfl, hal, by omega, HT7.out.belowS Hb9.out, Below.step Hb7.out Hb9.out Hb7.out.size⟩
                  · have hge : ¬ (40 : Int) ≤ (L.length : Int) := by omega
                    have hl40 : L.length < 40 := by omega
                    have HG4 := hid (show putE L = 0 ∧ putL L ⟨y0, y1, y2, y3, y4, y5, y6⟩ = L ++ [⟨y0, y1, y2, y3, y4, y5, y6⟩] from ⟨by rw [putE, if_neg h40], by rw [putL, if_neg h40]⟩)
                    rw [HG4.out.1, HG4.out.2] at HG
                    clear h40
                    go_upto_region 48 with fail
                    go_cut [] (fun wx => RRes w.heap.size w1.heap.size (.slice (some ⟨gu, off2, none⟩) L.length cu) we (.tuple #[]) (L ++ [⟨y0, y1, y2, y3, y4, y5, y6⟩]) C (.returned (.tuple #[])) wx)
                    case first =>
                      refine r48_all w.heap.size w1.heap.size wo.heap.size gu off2 cu k L C y0 y1 y2 y3 y4 y5 y6 we HRe.out Hbe.out.size hk hl40 hlc e1 HVe.out.lt hgu k0 k1 k2 k3 k4 k5 k6 hyg _ _ _ _ _ _ _ _ _ _ _ _ _ _ _ _ _ _ _ _ _ _ _ _ _ _ _ _ _ _ _ _ _ _ _ _ _ _ _ _ _ _ _ _ _ _ _ _ _ _ _ _ _ _ _ _ _ _ _ _ _ _ _ _ _ _ _ _ _ _ _ _ _ _ _ _ _ _ _ _ _ _ _ _ _ _ _ _ _ _ _ _ _ _ _ _ _ _ _ _ _ _ _ _ _ _ _ _ _ _ _ _ _ _ _ _ _ _ _ _ _ _ _ _ _ _ _ _ _ _ _ _ _ _ _ _ _ _ _ _ _ _ _ _ _ _ _ _ _ _ _ _ _ _ _ _ _ _ _ _ _ _ _ _ _ _ _ _ _ _ _ _ _ _ _ _ _ _ _ _ _ _ _ _ _ _ _ _ _ _ _ _ _ _ _ _ _ _ _ _ _ _ _ _ _ _ _ _ _ _ _ _ _ _ _ _ _ ?_
                      intro v182 v183 v184 v185 v186 v187 v188 v189 v190 v191 v192 v193 v194 v195 v196 v197 v198 wx h
                      have Hh := hid h
                      clear h
                      go_wp2_with fail
                      go_meet
                      exact Hh.out
                    case rest =>
                    as_aux_lemma =>
                    obtain ⟨w6, rfl⟩ : ∃ w6 : World, w6 = wc := ⟨_, rfl⟩
                    obtain ⟨u6, -, hR6, hM6, hA6, hF6⟩ := deedR HMe.out HAp.out hcut
                    have hV6 := HVe.out.fr hF6 (fun h => by have := (HFR.out _ h).2; omega)
                    have hb6 := FRfr HRe.out hF6 (Nat.le_refl _) Hbe.out
                    have f1 : w6.cell? ⟨wo.heap.size, 1, none⟩ = some (.int .i64 k) := hV6.cell 1
                    have HR6 := hid hR6
                    have HM6 := hid hM6
                    have HA6 := hid hA6
                    have Hb6 := hid hb6
                    clear hcut hF6 hV6 hb6 hR6 hM6 hA6 e0 e1 e2 k0 k1 k2 k3 k4 k5 k6 c0
                    go_wp2_with fail
                    refine (HG.out _ _ HM6.out).mono ?_
                    intro e w7 h7
                    obtain ⟨v7, rfl, hM7, hR7, hA7, hF7⟩ := deedM HR6.out HA6.out h7
                    have hb7 := FMfr HM6.out hF7 (Nat.le_refl _) Hb6.out
                    have HT7 := hid (show TwoM w.heap.size (w.heap.size + 1) w.heap.size w1.heap.size w7 (L ++ [⟨y0, y1, y2, y3, y4, y5, y6⟩]) nc C from ⟨v7, u6, hM7, hR7, hA7⟩)
                    have Hb7 := hid hb7
                    clear h7 hF7 hb7 hM7 hR7 hA7 f1
                    go_wp2_with fail
                    refine (Hee.out 0 _ Hb7.out).mono ?_
                    rw [beq_self_eq_true]
                    rintro e w9 ⟨rfl, hb9⟩
                    have Hb9 := hid hb9
                    clear hb9
                    go_wp2_with fail
                    go_meet
                    exact ⟨a, nc, _, C, rfl, rfl, hal, by omega, HT7.out.belowS Hb9.out, Below.step Hb7.out Hb9.out Hb7.out.size⟩
              · --E
                as_aux_lemma =>
                have b3 : (x0 == 3) = false := by rw [beq_eq_false_iff_ne]; omega
                have b4 : (x0 == 4) = false := by rw [beq_eq_false_iff_ne]; omega
                have b5 : (x0 == 5) = false := by rw [beq_eq_false_iff_ne]; omega
                obtain ⟨cb, hcb⟩ : ∃ cb, (x0 == 6) = cb := ⟨_, rfl⟩
                have HRn := hid (rends_any x1 x2 we)
                have HCu := hid (fun v W (hW : MailO w.heap.size W (w.heap.size + 1) w.heap.size v L nc C) => mcut_any w.heap.size (w.heap.size + 1) w.heap.size nc x1 x2 cb v L C W hW (by have := Hnc.out; omega))
                clear h
                by_cases he : endsE x1 x2 = 0
                · obtain ⟨n0, n1, -⟩ := endsE_zero he
                  have h0 := nodeB_true.1 n0
                  have h1 := nodeB_true.1 n1
                  obtain ⟨p, rfl⟩ := Int.eq_ofNat_of_zero_le h0.1
                  obtain ⟨q, rfl⟩ := Int.eq_ofNat_of_zero_le h1.1
                  have hp : p < 6 := by omega
                  have hq : q < 6 := by omega
                  have hp1 : (p : Int) < 6 := by omega
                  have hq1 : (q : Int) < 6 := by omega
                  have hzz := HRe.out.fz (1 + p * 6 + q)
                  have hcc := HRe.out.cut hp hq
                  rw [he] at HRn HCu
                  rw [if_pos rfl] at HCu
                  have hpc := HRe.out.putC hp hq cb
                  have HPC := hid hpc
                  clear he n0 n1 h0 h1 hpc
                  go_wp2_with fail
                  refine HRn.out.mono ?_
                  rintro e w' ⟨rfl, rfl⟩
                  go_upto_region 19 with fail
                  go_cut [] (fun wx => RMO w.heap.size wx w1.heap.size (.slice Au L.length cu) L (setC C p q cb) ∧ Fr (FR w1.heap.size (.slice Au L.length cu)) we wx)
                  case first =>
                    go_region_law (fail)
                    all_goals
                      go_wp2_with fail
                      go_meet
                      first
                        | with_reducible exact ⟨HPC.out.1, HPC.out.2⟩
                        | with_reducible exact ⟨HPC.out.1.belowS ((Below.refl _ _).drew), HPC.out.2.drew⟩
                        | with_reducible exact ⟨HPC.out.1.belowS (Below.manyDrew (Below.refl _ _) _), HPC.out.2.drewN _⟩
                  case rest =>
                  obtain ⟨hR6, hF6⟩ := hcut
                  obtain ⟨w6, rfl⟩ : ∃ w6 : World, w6 = wc := ⟨_, rfl⟩
                  have hV6 := HVe.out.fr hF6 (fun h => by have := (HFR.out _ h).2; omega)
                  have hb6 := FRfr HRe.out hF6 (Nat.le_refl _) Hbe.out
                  have hM6 := HMe.out.fr hF6 (fun i hi hr => HAp.out i hi hr)
                  have f1 : w6.cell? ⟨wo.heap.size, 1, none⟩ = some (.int .i64 p) := hV6.cell 1
                  have f2 : w6.cell? ⟨wo.heap.size, 2, none⟩ = some (.int .i64 q) := hV6.cell 2
                  have HR6 := hid hR6
                  have HM6 := hid hM6
                  have Hb6 := hid hb6
                  clear hF6 hV6 hb6 hR6 hM6 e0 e1 e2 hzz hcc
                  go_wp2_with fail
                  refine (HCu.out _ _ HM6.out).mono ?_
                  intro e w7 h7
                  obtain ⟨v7, rfl, hM7, hR7, hA7, hF7⟩ := deedM HR6.out HAp.out h7
                  have hb7 := FMfr HM6.out hF7 (Nat.le_refl _) Hb6.out
                  have HT7 := hid (show TwoM w.heap.size (w.heap.size + 1) w.heap.size w1.heap.size w7 L (nc + 1) (setC C p q cb) from ⟨v7, _, hM7, hR7, hA7⟩)
                  have Hb7 := hid hb7
                  clear h7 hF7 hb7 hM7 hR7 hA7 f1 f2
                  go_wp2_with fail
                  refine (Hee.out 0 _ Hb7.out).mono ?_
                  rw [beq_self_eq_true]
                  rintro e w9 ⟨rfl, hb9⟩
                  have Hb9 := hid hb9
                  clear hb9
                  go_wp2_with fail
                  go_meet
                  exact ⟨a, nc + 1, L, _, rfl, rfl, hal, by omega, HT7.out.belowS Hb9.out, Below.step Hb7.out Hb9.out Hb7.out.size⟩
                · have heb : (endsE x1 x2 == 0) = false := by rw [beq_eq_false_iff_ne]; exact he
                  rw [if_neg he] at HCu
                  generalize endsE x1 x2 = ee at *
                  clear he
                  go_wp2_with fail
                  refine HRn.out.mono ?_
                  rintro e w' ⟨rfl, rfl⟩
                  go_wp2_with fail
                  refine (HCu.out _ _ HMe.out).mono ?_
                  intro e w7 h7
                  obtain ⟨v7, rfl, hM7, hR7, hA7, hF7⟩ := deedM HRe.out HAp.out h7
                  have hb7 := FMfr HMe.out hF7 (Nat.le_refl _) Hbe.out
                  have HT7 := hid (show TwoM w.heap.size (w.heap.size + 1) w.heap.size w1.heap.size w7 L (nc + 1) C from ⟨v7, _, hM7, hR7, hA7⟩)
                  have Hb7 := hid hb7
                  clear h7 hF7 hb7 hM7 hR7 hA7 e0 e1 e2
                  go_wp2_with fail
                  refine (Hee.out ee _ Hb7.out).mono ?_
                  rw [beq_self_eq_true]
                  rintro e w9 ⟨rfl, hb9⟩
                  have Hb9 := hid hb9
                  clear hb9
                  go_wp2_with fail
                  go_meet
                  exact ⟨a, nc + 1, L, C, rfl, rfl, hal, by omega, HT7.out.belowS Hb9.out, Below.step Hb7.out Hb9.out Hb7.out.size⟩
            · --A
              as_aux_lemma =>
              go_upto_if 106 with fail
              go_cut [7] (fun at_ wx => NextE l.xs.length we at_ wx)
              case first =>
                by_cases hlt : a < l.xs.length
                · obtain ⟨bl, ofl, hAl, hbl, hcl⟩ := hes.row (by omega)
                  have hy := hes.each _ (List.getElem_mem hlt)
                  have hbl2 : bl < we.heap.size := by have := Hbe.out.size; omega
                  have k0 : we.cell? ⟨bl, ofl + a * 5, none⟩ = some (.int .i64 l.xs[a].key) := (Hbe.out.cell (p := ⟨bl, _, none⟩) hbl).trans (hcl a hlt 0 (by decide))
                  have k1 : we.cell? ⟨bl, ofl + a * 5 + 1, none⟩ = some (.int .i64 l.xs[a].ver) := (Hbe.out.cell (p := ⟨bl, _, none⟩) hbl).trans (hcl a hlt 1 (by decide))
                  have k2 : we.cell? ⟨bl, ofl + a * 5 + 2, none⟩ = some (.int .i64 l.xs[a].asof) := (Hbe.out.cell (p := ⟨bl, _, none⟩) hbl).trans (hcl a hlt 2 (by decide))
                  have k3 : we.cell? ⟨bl, ofl + a * 5 + 3, none⟩ = some (.bool l.xs[a].gone) := (Hbe.out.cell (p := ⟨bl, _, none⟩) hbl).trans (hcl a hlt 3 (by decide))
                  have k4 : we.cell? ⟨bl, ofl + a * 5 + 4, none⟩ = some (.string l.xs[a].text) := (Hbe.out.cell (p := ⟨bl, _, none⟩) hbl).trans (hcl a hlt 4 (by decide))
                  generalize l.xs[a] = y at *
                  obtain ⟨y0, y1, y2, y3, y4⟩ := y
                  simp only at k0 k1 k2 k3 k4
                  have HAl := hid hAl
                  rw [hAl]
                  clear hAl hcl
                  go_wp2_with fail
                  rw [← HAl.out]
                  go_meet
                  exact ⟨a + 1, ⟨y0, y1, y2, y3, y4⟩, by go_num, by omega, hy, Blk.new _ _ _, (Below.refl _ _).alloc (Nat.le_refl _) _⟩
                · go_wp2_with fail
                  go_meet
                  exact ⟨a, E.zero, rfl, hal, E.zero_good, Blk.new _ _ _, (Below.refl _ _).alloc (Nat.le_refl _) _⟩
              case rest =>
              obtain ⟨a', ⟨y0, y1, y2, y3, y4⟩, rfl, ha', hy, hX6, hb6⟩ := hcut
              obtain ⟨w6, rfl⟩ : ∃ w6 : World, w6 = wc := ⟨_, rfl⟩
              have hV6 := HVe.out.belowS hb6
              have f1 : w6.cell? ⟨wo.heap.size, 1, none⟩ = some (.int .i64 x1) := hV6.cell 1
              have f2 : w6.cell? ⟨wo.heap.size, 2, none⟩ = some (.int .i64 x2) := hV6.cell 2
              have d0 := hX6.cell 0
              have d1 := hX6.cell 1
              have d2 := hX6.cell 2
              have d3 := hX6.cell 3
              have d4 := hX6.cell 4
              simp at d0 d1 d2 d3 d4
              have hb67 : Below we.heap.size we (w6.alloc (.cells #[.int .i64 x1, .int .i64 x2, .int .i64 y0, .int .i64 y1, .int .i64 y2, .bool y3, .string y4] 37)) := hb6.alloc hb6.size _
              have HR6 := hid (HRe.out.belowS hb67)
              have HM6 := hid (HMe.out.belowS hb67)
              have Hb6 := hid (Below.step Hbe.out hb67 Hbe.out.size)
              have hz6 := hb6.size
              have hlx6 := hX6.lt
              have hlv6 := hV6.lt
              have HY6 := hid (Blk.new w6 37 #[.int .i64 x1, .int .i64 x2, .int .i64 y0, .int .i64 y1, .int .i64 y2, .bool y3, .string y4])
              have HS1 := hid (fun u W => rmsend_all w.heap.size w1.heap.size x1 x2 y0 y1 y2 y3 y4 hy u L C W)
              have HS2 := hid (fun v W => msend_all w.heap.size (w.heap.size + 1) w.heap.size nc x1 x2 y0 y1 y2 y3 y4 hy v L C W)
              generalize sendE L ⟨x1, x2, y0, y1, y2, y3, y4⟩ = se at *
              generalize sendL C L ⟨x1, x2, y0, y1, y2, y3, y4⟩ = LL at *
              have Hrg : Hid (w6.rangeAt we.heap.size 0 [.int .i64 y0, .int .i64 y1, .int .i64 y2, .bool y3, .string y4]) := hid (rangeE5 (hX6.cell 0) (hX6.cell 1) (hX6.cell 2) (hX6.cell 3) (hX6.cell 4))
              have HRw := hid (HRe.out.belowS hb6)
              have HMw := hid (HMe.out.belowS hb6)
              have Hbw := hid (Below.step Hbe.out hb6 Hbe.out.size)
              clear hb6 hb67 hX6 hV6 hy HR6 HM6 Hb6 HY6
              go_upto_region 28 with fail
              have HZ := hid (Blk.new w6 37 #[.int .i64 0, .int .i64 0, .int .i64 0, .int .i64 0, .int .i64 0, .bool false, .string ⟨#[]⟩])
              go_cut [15] (fun t wx => t = .pointer (some ⟨w6.heap.size, 0, none⟩) ∧ Blk wx w6.heap.size 37 #[.int .i64 x1, .int .i64 x2, .int .i64 y0, .int .i64 y1, .int .i64 y2, .bool y3, .string y4] ∧ Below w6.heap.size w6 wx)
              case first =>
                clear d0 d1 d2 d3 d4
                go_wp2_with (first
                  | (refine at_load5 rfl ?_; refine ld5 rfl _ rfl we.heap.size 0 rfl _ _ _ _ _ Hrg.out ?_)
                  | (refine at_bldLt rfl ?_; refine bldLt rfl _ _ _ rfl x1 x2 y0 y1 y2 y3 y4 rfl rfl rfl ?_)
                  | (refine at_storeLt rfl ?_; refine stLt rfl _ _ rfl w6.heap.size rfl x1 x2 y0 y1 y2 y3 y4 rfl HZ.out ?_))
                go_meet
                exact ⟨rfl, ltBox _ _ _ _ _ _ _ _ _ _ _ _ _ _ _, ltBelow _ _ _ _ _ _ _ _ _ _ _ _ _ _ _ _ _ (Below.refl _ _) rfl⟩
              case rest =>
              obtain ⟨rfl, hYL, hbL⟩ := hcut
              obtain ⟨wL, rfl⟩ : ∃ wL : World, wL = wc := ⟨_, rfl⟩
              have HR6 := hid (HRw.out.belowS hbL)
              have HM6 := hid (HMw.out.belowS hbL)
              have Hb6 := hid (Below.step Hbw.out hbL Hbw.out.size)
              have HY6 := hid hYL
              have hlL := hYL.lt
              have m0 := hYL.cell 0
              have m1 := hYL.cell 1
              have m2 := hYL.cell 2
              have m3 := hYL.cell 3
              have m4 := hYL.cell 4
              have m5 := hYL.cell 5
              have m6 := hYL.cell 6
              simp at m0 m1 m2 m3 m4 m5 m6
              clear f1 f2 d0 d1 d2 d3 d4 hYL hbL HZ Hrg
              go_wp2_with fail
              refine (HS1.out _ _ HR6.out).mono ?_
              intro e w7 h7
              obtain ⟨u7, rfl, hR7, hM7, hA7, hF7⟩ := deedR HM6.out HAp.out h7
              have hY7 := HY6.out.fr hF7 (fun h => by have := (HFR.out _ h).2; omega)
              have hb7 := FRfr HR6.out hF7 (Nat.le_refl _) Hb6.out
              have d0 := hY7.cell 0
              have d1 := hY7.cell 1
              have d2 := hY7.cell 2
              have d3 := hY7.cell 3
              have d4 := hY7.cell 4
              have d5 := hY7.cell 5
              have d6 := hY7.cell 6
              simp at d0 d1 d2 d3 d4 d5 d6
              have HR7 := hid hR7
              have HM7 := hid hM7
              have HA7 := hid hA7
              have Hb7 := hid hb7
              clear h7 hF7 hY7 hR7 hM7 hA7 hb7 m0 m1 m2 m3 m4 m5 m6
              go_wp2_with fail
              refine (HS2.out _ _ HM7.out).mono ?_
              intro e w8 h8
              obtain ⟨v8, rfl, hM8, hR8, hA8, hF8⟩ := deedM HR7.out HA7.out h8
              have hb8 := FMfr HM7.out hF8 (Nat.le_refl _) Hb7.out
              have HT8 := hid (show TwoM w.heap.size (w.heap.size + 1) w.heap.size w1.heap.size w8 LL nc C from ⟨v8, u7, hM8, hR8, hA8⟩)
              have Hb8 := hid hb8
              clear h8 hF8 hM8 hR8 hA8 hb8 d0 d1 d2 d3 d4 d5 d6
              go_wp2_with fail
              refine (Hee.out se w8 Hb8.out).mono ?_
              rw [beq_self_eq_true]
              rintro e w9 ⟨rfl, hb9⟩
              have Hb9 := hid hb9
              clear hb9
              go_wp2_with fail
              go_meet
              exact ⟨a', nc, LL, C, rfl, rfl, ha', by omega, HT8.out.belowS Hb9.out, Below.step Hb8.out Hb9.out Hb8.out.size⟩
          case rest =>
          obtain ⟨a', nc', L', C', rfl, rfl, ha', hnc', hT', hb'⟩ := hcut
          obtain ⟨w9, rfl⟩ : ∃ w9 : World, w9 = wc := ⟨_, rfl⟩
          have HT' := hid hT'
          have Hb' := hid hb'
          have hz9 : w1.heap.size < w9.heap.size := by obtain ⟨_, _, _, h, _⟩ := hT'; exact h.lt
          have hnn := Hnc.out
          obtain ⟨v9, u9, hM9, hR9, -⟩ := hT'
          obtain ⟨A9, c9, hu9, -, -, -⟩ := hR9.own.form
          have r0 := hR9.c0
          rw [hu9] at r0
          have HC9 := hid (fun W (hW : Below w9.heap.size w9 W) => mcount_any w.heap.size (w.heap.size + 1) w.heap.size nc' v9 L' C' W (hM9.belowS hW))
          clear hM9 hR9 hu9 hb' e0 e1 e2
          go_wp2_with fail
          go_quiet ((go_at_call 16; exact Calls.quiet_of_same ((HC9.out _ (Below.manyDrew (Below.refl _ _) _)).mono (fun _ _ h => ⟨h.1, h.2.symm⟩))))
          go_wp2_with fail
          go_roundw
          case rel => exact ⟨n + 1, a', nc', L', C', by omega, by go_num, rfl, ha', by omega, HT'.out.belowS (Below.manyDrew (Below.refl _ _) _), Below.manyDrew Hb'.out _, hz9⟩
          case measure => simp [intOf]; omega
      · go_wp2_with fail
        go_ret
        exact ⟨rfl, hbr⟩
    · go_wp2_with fail
      go_ret
      exact ⟨rfl, hbr⟩

set_option maxRecDepth 100000 in
theorem mailPlays_walk : LawWalk Tryd.prog 3 Tryd.f3 Gl := by
  intro W base args H enc ds p hval hA hgl
  rw [Tryd.params3] at hA hval
  obtain ⟨v0, v1, d0, d1, p0, p1, rfl, rfl, rfl, h0, h1⟩ := trodAll_two hA
  obtain ⟨st, rfl, hst⟩ := arg_slice Tryd.underlying22 codecInts (pos_of_eq Tryd.cellsInts (by decide)) (hval 0 22 v0 rfl rfl) h0
  obtain ⟨s, rfl, hs⟩ := arg_slice Tryd.underlying23 codecEntry (pos_of_eq Tryd.cellsEntry (by decide)) (hval 1 23 v1 rfl rfl) h1
  exact mailPlays_any st s W (intssAt_of hst) (entriesAt_of hs) hgl

set_option maxRecDepth 100000 in
theorem mailPlays_lifted (os : Os) (started : os.Started) (H : Type) (enc : TypeId × Value → H) :
    ReturnsInHanded {} Tryd.checked os 3 .any (fun w args => (Rows.mailPlaysSpec.pre enc Tryd.checked.prog Tryd.f3 [] false w args ∧ laidMetH Tryd.prog theLaid w) ∧ sizedMet enc Tryd.checked.prog Tryd.f3 (OpenSpec.ofChange Rows.mailPlaysSpec) false w args) (Rows.mailPlaysSpec.post enc Tryd.checked.prog Tryd.f3 false true false false) :=
  laid_lifted (C := Tryd.checked) theLaid (fun _ h => handle_of_laid h) [] Tryd.own started (by kernel_rfl) Tryd.func3 Tryd.laidOut (by kernel_rfl) rfl Tryd.underlying4 rfl (fun ds h => by match ds, h with | [_, _], _ => rfl)
    (ChangeSpec.witness_at (enc := enc) (C := Tryd.checked) (os := os) (X := fun w _ => laidMetH Tryd.prog theLaid w) false (laidWorld os) #[.slice none 0 0, .slice none 0 0] 8 rfl (by kernel_rfl) (by kernel_rfl) (by kernel_rfl) (by kernel_rfl) (by kernel_rfl) (laidWorld_met os _)) mailPlays_walk

theorem mailPlays_row : Rows.MailPlaysSaid :=
  OpenClaim.holds_of_wide 3 Tryd.f3 rfl rfl rfl rfl rfl rfl rfl ⟨rfl, rfl, rfl, rfl, rfl⟩ rfl rfl rfl rfl rfl (by kernel_rfl) Tryd.func3 (by kernel_rfl)
    (of_decide_eq_true (by kernel_rfl)) (by unfold Func.isWrapper; rw [if_neg (of_decide_eq_false (by kernel_rfl))]; exact ⟨rfl, rfl⟩)
    (fun os started H enc _ => mailPlays_lifted os started H enc)

theorem mailPlays_holds : Rows.MailPlaysCardSaid :=
  Claim7.holds_tied_plain_at .later [] [.handle] true _ true
    mailPlays_row (fun _ h => by cases h) (by kernel_rfl) (fun _ h => by cases h) mailPlays_row_tie rfl ⟨rfl, rfl⟩ (by kernel_rfl) rfl
    (fun f fn hf hfn => by
      obtain rfl : f = 3 := Option.some.inj ((show Tryd.prog.funcNamed "beaconmere/merelaw2.MailPlays" = some 3 by kernel_rfl).symm.trans hf) |>.symm
      obtain rfl : fn = Tryd.f3 := (Option.some.inj (Tryd.func3.symm.trans hfn)).symm
      refine ⟨by kernel_rfl, fun j t ht => ?_⟩
      have hall : Tryd.f3.params.toList.all (fun t => !Tryd.prog.wantsStandIn t) = true := by kernel_rfl
      have hm : t ∈ Tryd.f3.params.toList := by
        obtain ⟨hj, hje⟩ := Array.getElem?_eq_some_iff.1 ht
        rw [← hje]
        exact Array.mem_toList_iff.2 (Array.getElem_mem hj)
      have := List.all_eq_true.1 hall t hm
      exact (show Tryd.prog.wantsStandIn t = false by simpa using this))
    (by kernel_rfl)

end Go.Proofs.YtgamocljdbffpaaDoor
