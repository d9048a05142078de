/-
  PROVED HERE: merelaw2.MailKeeps returns true: what comes was sent, whatever is lost, doubled, or cut. CONDITIONS: none.
-/
import Derived.Test.YtdkmaihekhgdgaaMail4
import Derived.Test.YtdkmaihekhgdgaaLtEq
import Derived.Deep.CutBlock
namespace Go.Proofs.Ytdkmaihekhgdgaa
open Go.RowKit
open Go.ChangeShapes Go.WideShapes Go.ChangeAt

def okL (y : Lt) : Bool := decide (endsE y.frm y.dst = 0) && decide (chkL y = 0)
theorem okL_true {y : Lt} : okL y = true ↔ endsE y.frm y.dst = 0 ∧ chkL y = 0 := by simp [okL]
theorem okL_false {y : Lt} (h : okL y = false) (C : Int → Int → Bool) (L : List Lt) : sendE L y ≠ 0 ∧ sendL C L y = L := by
  have h' : ¬ (endsE y.frm y.dst = 0 ∧ chkL y = 0) := fun k => by rw [okL_true.2 k] at h; cases h
  unfold sendE sendL
  by_cases he : endsE y.frm y.dst = 0
  · have hc : ¬ chkL y = 0 := fun hc => h' ⟨he, hc⟩
    rw [if_pos he, if_neg hc, if_pos he, if_neg hc]
    exact ⟨hc, rfl⟩
  · rw [if_neg he, if_neg he]
    exact ⟨he, rfl⟩
theorem okL_sendE {y : Lt} (h : okL y = true) (L : List Lt) : sendE L y = putE L := by
  obtain ⟨he, hc⟩ := okL_true.1 h
  rw [sendE, if_pos he, if_pos hc]
theorem okL_sendL {y : Lt} (h : okL y = true) (C : Int → Int → Bool) (L : List Lt) : sendL C L y = if C y.frm y.dst = true then L else putL L y := by
  obtain ⟨he, hc⟩ := okL_true.1 h
  rw [sendL, if_pos he, if_pos hc]
theorem okL_no {y : Lt} (h : okL y = true) {C : Int → Int → Bool} {L : List Lt} (hC : C y.frm y.dst = false) (hL : L.length < 40) : sendL C L y = L ++ [y] := by
  rw [okL_sendL h, if_neg (by rw [hC]; decide), putL, if_neg (by omega)]
theorem okL_cut {y : Lt} (h : okL y = true) {C : Int → Int → Bool} {L : List Lt} (hC : C y.frm y.dst = true) : sendL C L y = L := by
  rw [okL_sendL h, if_pos hC]
theorem okL_full {y : Lt} (h : okL y = true) {C : Int → Int → Bool} {L : List Lt} (hL : L.length = 40) : sendE L y = 4 ∧ sendL C L y = L := by
  rw [okL_sendE h, okL_sendL h, putE, if_pos hL, putL, if_pos hL]
  exact ⟨rfl, by split <;> rfl⟩
def sentS (l : List Lt) (k : Nat) : List Lt := (l.take k).filter okL
theorem sentS_snoc {l : List Lt} {k : Nat} (h : k < l.length) : sentS l (k + 1) = if okL (l.getD k Lt.zero) = true then sentS l k ++ [l.getD k Lt.zero] else sentS l k := by
  unfold sentS
  rw [take_snocD Lt.zero h, List.filter_append]
  split
  · rename_i hk
    rw [List.filter_cons_of_pos hk, List.filter_nil]
  · rename_i hk
    rw [List.filter_cons_of_neg hk, List.filter_nil, List.append_nil]
theorem sentS_length (l : List Lt) (k : Nat) : (sentS l k).length ≤ k := Nat.le_trans (List.length_filter_le _ _) (List.length_take_le _ _)
theorem sentS_mem {l : List Lt} {k : Nat} (h : k < l.length) (hk : k < 20) (ho : okL (l.getD k Lt.zero) = true) : l.getD k Lt.zero ∈ sentS l 20 := by
  unfold sentS
  refine List.mem_filter.2 ⟨?_, ho⟩
  rw [getD_get _ h]
  exact List.mem_take_iff_getElem.2 ⟨k, by omega, rfl⟩

/-- the mail and what was sent, apart; all that is on its way was sent -/
def KO (B s bm : Nat) (w : World) (u : Value) (S L : List Lt) (nc : Nat) (C : Int → Int → Bool) : Prop :=
  ∃ v, MailO B w s bm v L nc C ∧ Ow Lt.cells 7 B 32 w u S ∧ ∀ i, FM s bm v i → foot u ≠ some i
theorem KO.belowS {B s bm : Nat} {w w' : World} {u : Value} {S L : List Lt} {nc : Nat} {C : Int → Int → Bool} (h : KO B s bm w u S L nc C) (hb : Below w.heap.size w w') : KO B s bm w' u S L nc C := by
  obtain ⟨v, h1, h2, h3⟩ := h
  exact ⟨v, h1.belowS hb, h2.belowS hb, h3⟩
theorem KO.deed {B s bm : Nat} {w w' : World} {u v : Value} {S L L' : List Lt} {nc nc' : Nat} {C C' : Int → Int → Bool} {ret : Value} {e : Ending} (h1 : MailO B w s bm v L nc C) (h2 : Ow Lt.cells 7 B 32 w u S) (h3 : ∀ i, FM s bm v i → foot u ≠ some i)
    (hr : MRes B s bm v w ret L' nc' C' e w') : e = .returned ret ∧ KO B s bm w' u S L' nc' C' ∧ ∀ W0 : World, W0.heap.size ≤ B → Below W0.heap.size W0 w → Below W0.heap.size W0 w' := by
  obtain ⟨v', he, hO, hF, ho⟩ := hr
  refine ⟨he, ⟨v', hO, h2.fr hF (fun g hg hi => h3 g hi hg), fun i hi hu => ?_⟩, fun W0 hW hb => hb.trans (hF.below0 hb.size (fun i hi => Nat.le_trans hW (h1.fml hi).1))⟩
  rcases hi with hi | hi | hi
  · exact h3 i (.inl hi) hu
  · exact h3 i (.inr (.inl hi)) hu
  · rcases ho with o | ⟨g, o, hg⟩
    · exact h3 i (.inr (.inr (by rw [hi, o]))) hu
    · rw [← hi] at o; cases o
      have := (h2.lt hu).2
      omega

/-- a deed of the mail beside what was sent -/
def KRes (B s bm : Nat) (u : Value) (S : List Lt) (w : World) (ret : Value) (L' : List Lt) (nc' : Nat) (C' : Int → Int → Bool) (e : Ending) (w' : World) : Prop :=
  e = .returned ret ∧ KO B s bm w' u S L' nc' C' ∧ ∀ W0 : World, W0.heap.size ≤ B → Below W0.heap.size W0 w → Below W0.heap.size W0 w'
section
variable {B s bm nc : Nat} {w : World} {u : Value} {S L : List Lt} {C : Int → Int → Bool}
theorem KO.count (h : KO B s bm w u S L nc C) : Calls Try.prog 7 #[.pointer (some ⟨s, 0, none⟩)] w fun e w' => e = .returned (.int .i64 L.length) ∧ w = w' := by
  obtain ⟨v, h1, _, _⟩ := h
  exact mcount_any B s bm nc v L C w h1
theorem KO.lens (h : KO B s bm w u S L nc C) : L.length ≤ 40 := by
  obtain ⟨v, h1, _, _⟩ := h
  exact h1.lens
theorem KO.send (h : KO B s bm w u S L nc C) (x0 x1 x2 x3 x4 : Int) (x5 : Bool) (x6 : ByteArray) (hx : (⟨x0, x1, x2, x3, x4, x5, x6⟩ : Lt).good) :
    Calls Try.prog 5 #[.pointer (some ⟨s, 0, none⟩), .agg #[.int .i64 x0, .int .i64 x1, .int .i64 x2, .int .i64 x3, .int .i64 x4, .bool x5, .string x6]] w
      (KRes B s bm u S w (errV (sendE L ⟨x0, x1, x2, x3, x4, x5, x6⟩)) (sendL C L ⟨x0, x1, x2, x3, x4, x5, x6⟩) nc C) := by
  obtain ⟨v, h1, h2, h3⟩ := h
  exact (msend_any B s bm nc x0 x1 x2 x3 x4 x5 x6 hx v L C w h1).mono fun e w' hr => KO.deed h1 h2 h3 hr
theorem KO.lose (h : KO B s bm w u S L nc C) (i : Int) : Calls Try.prog 9 #[.pointer (some ⟨s, 0, none⟩), .int .i64 i] w (KRes B s bm u S w (errV (giveE L i)) (giveL L i) nc C) := by
  obtain ⟨v, h1, h2, h3⟩ := h
  exact (mlose_any B s bm nc i v L C w h1).mono fun e w' hr => KO.deed h1 h2 h3 hr
theorem KO.twice (h : KO B s bm w u S L nc C) (i : Int) : Calls Try.prog 10 #[.pointer (some ⟨s, 0, none⟩), .int .i64 i] w (KRes B s bm u S w (errV (twiceE L i)) (twiceL L i) nc C) := by
  obtain ⟨v, h1, h2, h3⟩ := h
  exact (mtwice_any B s bm nc i v L C w h1).mono fun e w' hr => KO.deed h1 h2 h3 hr
theorem KO.give (h : KO B s bm w u S L nc C) (i : Int) : Calls Try.prog 6 #[.pointer (some ⟨s, 0, none⟩), .int .i64 i] w (KRes B s bm u S w (.tuple #[(giveY L i).val, errV (giveE L i)]) (giveL L i) nc C) := by
  obtain ⟨v, h1, h2, h3⟩ := h
  exact (mgive_any B s bm nc i v L C w h1).mono fun e w' hr => KO.deed h1 h2 h3 hr
end
theorem giveL_sub {L S : List Lt} (h : ∀ y ∈ L, y ∈ S) (i : Int) : ∀ y ∈ giveL L i, y ∈ S := by
  unfold giveL
  split
  · intro y hy
    rcases List.mem_append.1 hy with hy | hy
    · exact h y (List.mem_of_mem_take hy)
    · exact h y (List.mem_of_mem_drop hy)
  · exact h
theorem twiceL_sub {L S : List Lt} (h : ∀ y ∈ L, y ∈ S) (i : Int) : ∀ y ∈ twiceL L i, y ∈ S := by
  unfold twiceL
  split
  · rename_i hi
    obtain ⟨h0, h1⟩ := inB_true.1 hi
    unfold putL
    split
    · exact h
    · intro y hy
      rcases List.mem_append.1 hy with hy | hy
      · exact h y hy
      · rw [List.mem_singleton.1 hy]
        exact h _ (getD_memD Lt.zero (by omega))
  · exact h
theorem snoc_sub {L S : List Lt} {y : Lt} (h : ∀ y ∈ L, y ∈ S) (hy : y ∈ S) : ∀ z ∈ L ++ [y], z ∈ S := fun z hz => by
  rcases List.mem_append.1 hz with hz | hz
  · exact h z hz
  · rw [List.mem_singleton.1 hz]; exact hy
theorem setC_at {C : Int → Int → Bool} {f t f' t' : Int} {c : Bool} : setC C f t c f' t' = if f' = f ∧ t' = t then c else C f' t' := rfl

set_option maxHeartbeats 16000000 in
set_option maxRecDepth 100000 in
theorem mailKeeps_cut (l : SlV Lt) (st : SlV (SlV Int)) (f t : Int) (w : World) (hl : LtsAt w l) (hst : IntssAt w st) (hE : endsE f t = 0) :
    Calls Try.prog 3 #[.slice l.A l.xs.length l.c, .slice st.A st.xs.length st.c, .int .i64 f, .int .i64 t] w fun e w' => e = .returned (.bool true) ∧ Below w.heap.size w w' := by
  have HE := hid hE
  clear hE
  have hlen := hl.len
  have hlens := hst.len
  unfold maxLen at hlen hlens
  have hsend1 := hid (fun W (hO : MailO w.heap.size W (w.heap.size + 1) w.heap.size (.slice none 0 0) [] 0 (fun _ _ => false)) => show Calls Try.prog 5 #[.pointer (some ⟨w.heap.size + 1, 0, none⟩), .agg #[.int .i64 1, .int .i64 2, .int .i64 3, .int .i64 4, .int .i64 5, .bool false, .string ⟨#[120]⟩]] W (MRes w.heap.size (w.heap.size + 1) w.heap.size (.slice none 0 0) W .nilIface [⟨1, 2, 3, 4, 5, false, ⟨#[120]⟩⟩] 0 (fun _ _ => false)) from by
    have hg : (⟨1, 2, 3, 4, 5, false, ⟨#[120]⟩⟩ : Lt).good := ⟨⟨(show (-9223372036854775808 : Int) ≤ 1 by decide), (show (1 : Int) ≤ 9223372036854775807 by decide)⟩, ⟨(show (-9223372036854775808 : Int) ≤ 2 by decide), (show (2 : Int) ≤ 9223372036854775807 by decide)⟩, ⟨(show (-9223372036854775808 : Int) ≤ 3 by decide), (show (3 : Int) ≤ 9223372036854775807 by decide)⟩, ⟨(show (-9223372036854775808 : Int) ≤ 4 by decide), (show (4 : Int) ≤ 9223372036854775807 by decide)⟩, ⟨(show (-9223372036854775808 : Int) ≤ 5 by decide), (show (5 : Int) ≤ 9223372036854775807 by decide)⟩, trivial, (show (1 : Nat) ≤ maxLen by unfold maxLen; decide)⟩
    have hc : chkL ⟨1, 2, 3, 4, 5, false, ⟨#[120]⟩⟩ = 0 := by
      simp [chkL, chk, keyB, seqB]
      exact (show (1 : Int) ≤ 12 by decide)
    have ho : okL ⟨1, 2, 3, 4, 5, false, ⟨#[120]⟩⟩ = true := okL_true.2 ⟨rfl, hc⟩
    have := msend_any w.heap.size (w.heap.size + 1) w.heap.size 0 1 2 3 4 5 false ⟨#[120]⟩ hg (.slice none 0 0) [] (fun _ _ => false) W hO
    rw [okL_sendE ho, okL_sendL ho] at this
    exact this)
  have hgive1 := hid (fun v W (hO : MailO w.heap.size W (w.heap.size + 1) w.heap.size v [⟨1, 2, 3, 4, 5, false, ⟨#[120]⟩⟩] 0 (fun _ _ => false)) => show Calls Try.prog 6 #[.pointer (some ⟨w.heap.size + 1, 0, none⟩), .int .i64 0] W (MRes w.heap.size (w.heap.size + 1) w.heap.size v W (.tuple #[.agg #[.int .i64 1, .int .i64 2, .int .i64 3, .int .i64 4, .int .i64 5, .bool false, .string ⟨#[120]⟩], .nilIface]) [] 0 (fun _ _ => false)) from
    mgive_any w.heap.size (w.heap.size + 1) w.heap.size 0 0 v _ (fun _ _ => false) W hO)
  go_enter Try.func3, Try.ntmps3
  go_wp2_with fail
  refine (mnew_any _).mono ?_
  rintro e w1 ⟨rfl, hO1, hb1⟩
  have HO1 := hid hO1
  have Hb1 := hid hb1
  clear hO1 hb1
  go_wp2_with fail
  refine (hsend1.out _ HO1.out).mono ?_
  rintro e w2 ⟨v2, rfl, hO2, hF2, _⟩
  have HO2 := hid hO2
  have Hb2 := hid (Hb1.out.trans (hF2.below0 Hb1.out.size (fun i hi => (HO1.out.fml hi).1)))
  clear hO2 hF2
  go_wp2_with fail
  refine (hgive1.out _ _ HO2.out).mono ?_
  rintro e w3 ⟨v3, rfl, hO3, hF3, _⟩
  have HO3 := hid hO3
  have Hb3 := hid (Hb2.out.trans (hF3.below0 Hb2.out.size (fun i hi => (HO2.out.fml hi).1)))
  have hz3 := Hb3.out.size
  clear hO3 hF3
  go_wp2_with fail
  refine (mcount_any w.heap.size (w.heap.size + 1) w.heap.size 0 v3 [] _ _ (HO3.out.belowS (by (repeat (first | with_reducible exact Below.refl _ _ | with_reducible assumption | (with_reducible refine Below.drew ?_) | (with_reducible refine Below.manyDrew ?_ _) | ((with_reducible refine Below.alloc ?_ ?_ _); rotate_left; (focus (first | omega | (dsimp only; omega) | (simp; done) | (simp; omega)))) | ((with_reducible refine Below.setCell ?_ ?_ _); rotate_left; (focus (first | omega | (dsimp only; omega) | (simp; done) | (simp; omega)))) | ((with_reducible refine Below.step ?_ (by assumption) ?_); rotate_left; (focus (first | omega | (dsimp only; omega) | (simp; done) | (simp; omega))))))))).mono ?_
  rintro e w4 ⟨rfl, rfl⟩
  have hb4 : Below w.heap.size w (w3.alloc (.cells #[.int .i64 1, .int .i64 2, .int .i64 3, .int .i64 4, .int .i64 5, .bool false, .string ⟨#[120]⟩] 32)) := Hb3.out.alloc hz3 _
  go_wp2_with fail
  obtain ⟨w4, hw4⟩ : ∃ w4 : World, w4 = w3.alloc (.cells #[.int .i64 1, .int .i64 2, .int .i64 3, .int .i64 4, .int .i64 5, .bool false, .string ⟨#[120]⟩] 32) := ⟨_, rfl⟩
  rw [← hw4] at hb4 ⊢
  have Hb4 := hid hb4
  have hwB := hb4.size
  clear hb4 hw4
  refine (mnew_any _).mono ?_
  rintro e w5 ⟨rfl, hO5, hb5⟩
  have hb5' := Below.step Hb4.out hb5 Hb4.out.size
  have hKO0 : KO w4.heap.size (w4.heap.size + 1) w4.heap.size w5 (.slice none 0 0) (sentS l.xs 0) (sentS l.xs 0) 0 (fun _ _ => false) := ⟨_, hO5, Ow.nil _ _ _ _ _, fun i _ h => by cases h⟩
  have HKO0 := hid hKO0
  have Hb5 := hid hb5'
  clear hO5 hb5 hb5' hKO0
  go_upto_block 0 with fail
  go_cut [14] (fun u wx => KO w4.heap.size (w4.heap.size + 1) w4.heap.size wx u (sentS l.xs 20) (sentS l.xs 20) 0 (fun _ _ => false) ∧ Below w.heap.size w wx)
  case first =>
    go_wp2_with fail
    go_loopw [14, 15] (fun u i wr => ∃ k : Nat, k ≤ 20 ∧ k ≤ l.xs.length ∧ i = .int .i64 k ∧ KO w4.heap.size (w4.heap.size + 1) w4.heap.size wr u (sentS l.xs k) (sentS l.xs k) 0 (fun _ _ => false) ∧ Below w.heap.size w wr) (fun _ i _ => 20 - (intOf i).toNat)
    case atStart => exact ⟨0, by omega, by omega, rfl, HKO0.out, Hb5.out⟩
    case round =>
      obtain ⟨k, hk20, hkl, rfl, hKO, hb⟩ := hrel
      have hzb := hb.size
      by_cases h1 : k < l.xs.length
      · by_cases h2 : k < 20
        · obtain ⟨g, off, hA, hgl, hcells⟩ := hl.row (by omega)
          obtain ⟨k0, k1, k2, k3, k4, k5, k6⟩ := (hcells k h1).stays hb hgl
          have hyg := hl.each _ (getD_memD Lt.zero h1)
          have Hsn := hid (sentS_snoc h1)
          have hsl := sentS_length l.xs k
          have HA := hid hA
          rw [hA]
          have HC := hid (fun W (hW : Below w.heap.size w W) => (hcells k h1).stays hW hgl)
          clear hcells
          generalize l.xs.getD k Lt.zero = y at *
          obtain ⟨y0, y1, y2, y3, y4, y5, y6⟩ := y
          simp only at k0 k1 k2 k3 k4 k5 k6
          obtain ⟨v, hO, hOw, hap⟩ := hKO
          have hS := msend_any w4.heap.size (w4.heap.size + 1) w4.heap.size 0 y0 y1 y2 y3 y4 y5 y6 hyg v _ (fun _ _ => false) wr hO
          have hgr : g < wr.heap.size := by omega
          have Hfin := hid (fun (ret : Value) (L' : List Lt) (nc' : Nat) (C' : Int → Int → Bool) (e : Ending) (w' : World) (h : MRes w4.heap.size (w4.heap.size + 1) w4.heap.size v wr ret L' nc' C' e w') => KO.deed hO hOw hap h)
          clear hA hyg
          rcases ho : okL ⟨y0, y1, y2, y3, y4, y5, y6⟩ with _ | _
          · obtain ⟨hne, hsL⟩ := okL_false ho (fun _ _ => false) (sentS l.xs k)
            rw [errV_ne hne, hsL] at hS
            rw [ho, if_neg (by decide)] at Hsn
            have HS := hid hS
            generalize sendE (sentS l.xs k) _ = en at *
            clear hS hO hOw hap hsL ho HC
            go_wp2_with fail
            refine HS.out.mono ?_
            intro e w6 h6
            obtain ⟨he, h7, h8⟩ := Hfin.out _ _ _ _ e w6 h6
            subst he
            have H7 := hid h7
            have H8 := hid h8
            clear h6 h7 h8 hne
            go_wp2_with fail
            go_roundw
            case rel => exact ⟨k + 1, by omega, by omega, by go_num, by rw [Hsn.out]; exact H7.out, H8.out _ hwB hb⟩
            case measure => simp [intOf]; omega
          · have hsE := okL_sendE ho (sentS l.xs k)
            have hsL := okL_no ho (C := fun _ _ => false) (L := sentS l.xs k) rfl (by omega)
            rw [hsE, putE_lt (by omega), errV_zero, hsL] at hS
            rw [ho, if_pos rfl] at Hsn
            have HS := hid hS
            clear hS hO hOw hap hsL ho hsE
            go_wp2_with fail
            refine HS.out.mono ?_
            intro e w6 h6
            obtain ⟨he, h7, h8⟩ := Hfin.out _ _ _ _ e w6 h6
            subst he
            have hb6 := h8 w hwB hb
            obtain ⟨k0', k1', k2', k3', k4', k5', k6'⟩ := HC.out w6 hb6
            have hz6 := hb6.size
            have hgr6 : g < w6.heap.size := by omega
            obtain ⟨v6, hO6, hOw6, hap6⟩ := h7
            have hw46 : w4.heap.size ≤ w6.heap.size := by have := hO6.blk.lt; omega
            have Hb6 := hid hb6
            have HO6 := hid hO6
            have HOw6 := hid hOw6
            have Hap6 := hid hap6
            clear h6 h8 hb6 hO6 hOw6 hap6 k0 k1 k2 k3 k4 k5 k6
            go_wp2_with (at_builtin; refine appLt _ w4.heap.size _ (sentS l.xs k) y0 y1 y2 y3 y4 y5 y6 HOw6.out rfl _ _ rfl rfl rfl ?_ ?_ ?_ ?_)
            all_goals try (first | omega | (simp; done) | (simp; omega))
            intro v8 w8 h8 f8 o8
            have hfin : KO w4.heap.size (w4.heap.size + 1) w4.heap.size w8 v8 (sentS l.xs (k + 1)) (sentS l.xs (k + 1)) 0 (fun _ _ => false) := by
              rw [Hsn.out]
              refine ⟨v6, HO6.out.fr f8 (fun i hi h => Hap6.out i hi h.symm), h8, fun i hi h => ?_⟩
              rcases o8 with o | o
              · exact Hap6.out i hi (by rw [← o, h])
              · rw [h] at o; cases o
                have := (HO6.out.fml hi).2
                omega
            have hb8 : Below w.heap.size w w8 := Hb6.out.trans (f8.below0 (by omega) (fun i hi => Nat.le_trans hwB (HOw6.out.ge i hi)))
            have Hfin8 := hid hfin
            have Hb8 := hid hb8
            clear hfin hb8 h8 f8 o8
            go_wp2_with fail
            go_roundw
            case rel => exact ⟨k + 1, by omega, by omega, by go_num, Hfin8.out, Hb8.out⟩
            case measure => simp [intOf]; omega
        · go_wp2_with fail
          go_meet
          obtain rfl : k = 20 := by omega
          exact ⟨hKO, hb⟩
      · go_wp2_with fail
        go_meet
        have he : sentS l.xs 20 = sentS l.xs k := by unfold sentS; rw [List.take_of_length_le (by omega), List.take_of_length_le (by omega)]
        rw [he]
        exact ⟨hKO, hb⟩
  case rest =>
  obtain ⟨hKO, hb⟩ := hcut
  have HgS := hid (show ∀ y ∈ sentS l.xs 20, y.good from fun y hy => hl.each y (List.mem_of_mem_take (List.mem_filter.1 hy).1))
  generalize hSS : sentS l.xs 20 = SS at *
  obtain ⟨v, hO, hOw, hap⟩ := hKO
  obtain ⟨A, c, hu, _, hcS, _⟩ := hOw.form
  have hSl : SS.length ≤ 20 := by rw [← hSS]; exact sentS_length _ _
  have Hmem := hid (fun (k : Nat) (h1 : k < l.xs.length) (h2 : k < 20) (h3 : okL (l.xs.getD k Lt.zero) = true) => show l.xs.getD k Lt.zero ∈ SS from by rw [← hSS]; exact sentS_mem h1 h2 h3)
  have hCut := mcut_any w4.heap.size (w4.heap.size + 1) w4.heap.size 0 f t true v SS (fun _ _ => false) _ hO (by decide)
  rw [if_pos HE.out, HE.out, errV_zero] at hCut
  have hCnt := mcount_any w4.heap.size (w4.heap.size + 1) w4.heap.size 0 v SS (fun _ _ => false) _ hO
  have Hfin := hid (fun (ret : Value) (L' : List Lt) (nc' : Nat) (C' : Int → Int → Bool) (e : Ending) (w' : World) (h : MRes w4.heap.size (w4.heap.size + 1) w4.heap.size v wc ret L' nc' C' e w') => KO.deed hO hOw hap h)
  have HCut := hid hCut
  have HCnt := hid hCnt
  subst hu
  obtain ⟨wd, rfl⟩ : ∃ wd : World, wd = wc := ⟨_, rfl⟩
  clear hCut hCnt hSS hO hOw hap HKO0
  go_wp2_with fail
  refine HCnt.out.mono ?_
  rintro e w6 ⟨rfl, rfl⟩
  go_wp2_with fail
  refine HCut.out.mono ?_
  intro e w7 h7
  obtain ⟨he, hK7, hb7⟩ := Hfin.out _ _ _ _ e w7 h7
  subst he
  have Hb7 := hid (hb7 w hwB hb)
  have HK7 := hid hK7
  clear h7 hK7 hb7 hb
  go_upto_block 2 with fail
  go_cut [] (fun wx => ∃ (L : List Lt) (nc : Nat) (C : Int → Int → Bool), KO w4.heap.size (w4.heap.size + 1) w4.heap.size wx (.slice A SS.length c) SS L nc C ∧ (∀ y ∈ L, y ∈ SS) ∧ Below w.heap.size w wx)
  case first =>
    go_wp2_with fail
    go_loopw [17] (fun i wr => ∃ (k : Nat) (L : List Lt), k ≤ 20 ∧ k ≤ l.xs.length ∧ i = .int .i64 k ∧ KO w4.heap.size (w4.heap.size + 1) w4.heap.size wr (.slice A SS.length c) SS L 1 (setC (fun _ _ => false) f t true) ∧ (∀ y ∈ L, y ∈ SS) ∧ Below w.heap.size w wr) (fun i _ => 20 - (intOf i).toNat)
    case atStart => exact ⟨0, SS, by omega, by omega, rfl, HK7.out, fun y hy => hy, Hb7.out⟩
    case round =>
      obtain ⟨k, L, hk20, hkl, rfl, hKO, hsub, hb⟩ := hrel
      have hzb := hb.size
      by_cases h1 : k < l.xs.length
      · by_cases h2 : k < 20
        · obtain ⟨g, off, hA, hgl, hcells⟩ := hl.row (by omega)
          obtain ⟨k0, k1, k2, k3, k4, k5, k6⟩ := (hcells k h1).stays hb hgl
          have hyg := hl.each _ (getD_memD Lt.zero h1)
          have hmem := Hmem.out k h1 h2
          have HA := hid hA
          rw [hA]
          have HC := hid (fun W (hW : Below w.heap.size w W) => (hcells k h1).stays hW hgl)
          clear hcells
          generalize l.xs.getD k Lt.zero = y at *
          obtain ⟨y0, y1, y2, y3, y4, y5, y6⟩ := y
          simp only at k0 k1 k2 k3 k4 k5 k6
          have hS := hKO.send y0 y1 y2 y3 y4 y5 y6 hyg
          have hgr : g < wr.heap.size := by omega
          have hL40 := hKO.lens
          have HKO := hid hKO
          have Hsub := hid hsub
          clear hA hyg hKO hsub
          have hbad : ∀ en : Int, en ≠ 0 → sendE L ⟨y0, y1, y2, y3, y4, y5, y6⟩ = en → sendL (setC (fun _ _ => false) f t true) L ⟨y0, y1, y2, y3, y4, y5, y6⟩ = L → Calls Try.prog 5 #[.pointer (some ⟨w4.heap.size + 1, 0, none⟩), .agg #[.int .i64 y0, .int .i64 y1, .int .i64 y2, .int .i64 y3, .int .i64 y4, .bool y5, .string y6]] wr
              (KRes w4.heap.size (w4.heap.size + 1) w4.heap.size (.slice A SS.length c) SS wr (.iface 47 (.int .i64 en)) L 1 (setC (fun _ _ => false) f t true)) := fun en h1 h2 h3 => by
            rw [h2, errV_ne h1, h3] at hS
            exact hS
          have Hbad := hid hbad
          have HS := hid hS
          clear hbad hS
          by_cases hok : okL ⟨y0, y1, y2, y3, y4, y5, y6⟩ = true ∧ L.length < 40
          · obtain ⟨ho, h40⟩ := hok
            have hmy := hmem ho
            have hsE := okL_sendE ho L
            rcases hc : (setC (fun _ _ => false) f t true) y0 y1 with _ | _
            · have hsL := okL_no ho (C := (setC (fun _ _ => false) f t true)) (L := L) hc h40
              have HS2 : Hid (Calls Try.prog 5 #[.pointer (some ⟨w4.heap.size + 1, 0, none⟩), .agg #[.int .i64 y0, .int .i64 y1, .int .i64 y2, .int .i64 y3, .int .i64 y4, .bool y5, .string y6]] wr (KRes w4.heap.size (w4.heap.size + 1) w4.heap.size (.slice A SS.length c) SS wr .nilIface (L ++ [⟨y0, y1, y2, y3, y4, y5, y6⟩]) 1 (setC (fun _ _ => false) f t true))) := hid (by
                have := HS.out
                rw [hsE, putE_lt h40, errV_zero, hsL] at this
                exact this)
              have Hsub2 := hid (snoc_sub Hsub.out hmy)
              have Hc := hid hc
              clear HS Hbad hmem hmy hsE hsL ho h40 hc
              go_wp2_with (refine (HKO.out.count).mono ?_; rintro e w6 ⟨rfl, rfl⟩)
              refine HS2.out.mono ?_
              intro e w6 h6
              obtain ⟨he, h7, h8⟩ := h6
              subst he
              have hb6 := h8 w hwB hb
              obtain ⟨k0', k1', k2', k3', k4', k5', k6'⟩ := HC.out w6 hb6
              have hcnt := h7.count
              rw [List.length_append, List.length_singleton] at hcnt
              have HCn : Hid (Calls Try.prog 7 #[.pointer (some ⟨w4.heap.size + 1, 0, none⟩)] w6 fun e w' => e = .returned (.int .i64 ((L.length : Int) + 1)) ∧ w6 = w') := hid (by exact hcnt)
              have H7 := hid h7
              have Hb6 := hid hb6
              have hz6 := hb6.size
              have hgr6 : g < w6.heap.size := by omega
              clear h7 h8 hb6 k0 k1 k2 k3 k4 k5 k6 hcnt
              by_cases hf : y0 = f
              · have hf' := hf.symm
                subst hf'
                have h1' : ¬ y1 = t := fun h => by
                  have := Hc.out
                  rw [setC_at, if_pos ⟨rfl, h⟩] at this
                  cases this
                have ht : (y1 == t) = false := by rw [beq_eq_false_iff_ne]; exact h1'
                clear h1' hf
                go_wp2_with (refine HCn.out.mono ?_; rintro e w7 ⟨rfl, rfl⟩)
                go_roundw
                case rel => exact ⟨k + 1, _, by omega, by omega, by go_num, H7.out, Hsub2.out, Hb6.out⟩
                case measure => simp [intOf]; omega
              · have hf' : (y0 == f) = false := by rw [beq_eq_false_iff_ne]; exact hf
                clear hf
                go_wp2_with (refine HCn.out.mono ?_; rintro e w7 ⟨rfl, rfl⟩)
                go_roundw
                case rel => exact ⟨k + 1, _, by omega, by omega, by go_num, H7.out, Hsub2.out, Hb6.out⟩
                case measure => simp [intOf]; omega
            · have hsL := okL_cut ho (C := (setC (fun _ _ => false) f t true)) (L := L) hc
              have HS2 : Hid (Calls Try.prog 5 #[.pointer (some ⟨w4.heap.size + 1, 0, none⟩), .agg #[.int .i64 y0, .int .i64 y1, .int .i64 y2, .int .i64 y3, .int .i64 y4, .bool y5, .string y6]] wr (KRes w4.heap.size (w4.heap.size + 1) w4.heap.size (.slice A SS.length c) SS wr .nilIface L 1 (setC (fun _ _ => false) f t true))) := hid (by
                have := HS.out
                rw [hsE, putE_lt h40, errV_zero, hsL] at this
                exact this)
              obtain ⟨hf, ht⟩ : y0 = f ∧ y1 = t := by
                rw [setC_at] at hc
                split at hc
                · assumption
                · cases hc
              have hf' := hf.symm
              have ht' := ht.symm
              subst hf' ht'
              clear HS Hbad hmem hmy hsE hsL ho h40 hc hf ht
              go_wp2_with (refine (HKO.out.count).mono ?_; rintro e w6 ⟨rfl, rfl⟩)
              refine HS2.out.mono ?_
              intro e w6 h6
              obtain ⟨he, h7, h8⟩ := h6
              subst he
              have hb6 := h8 w hwB hb
              obtain ⟨k0', k1', k2', k3', k4', k5', k6'⟩ := HC.out w6 hb6
              have HCn := hid h7.count
              have H7 := hid h7
              have Hb6 := hid hb6
              have hz6 := hb6.size
              have hgr6 : g < w6.heap.size := by omega
              clear h7 h8 hb6 k0 k1 k2 k3 k4 k5 k6
              go_wp2_with (refine HCn.out.mono ?_; rintro e w7 ⟨rfl, rfl⟩)
              go_roundw
              case rel => exact ⟨k + 1, L, by omega, by omega, by go_num, H7.out, Hsub.out, Hb6.out⟩
              case measure => simp [intOf]; omega
          · obtain ⟨en, hen⟩ : ∃ en : Int, Hid (Calls Try.prog 5 #[.pointer (some ⟨w4.heap.size + 1, 0, none⟩), .agg #[.int .i64 y0, .int .i64 y1, .int .i64 y2, .int .i64 y3, .int .i64 y4, .bool y5, .string y6]] wr
              (KRes w4.heap.size (w4.heap.size + 1) w4.heap.size (.slice A SS.length c) SS wr (.iface 47 (.int .i64 en)) L 1 (setC (fun _ _ => false) f t true))) := by
              rcases ho : okL ⟨y0, y1, y2, y3, y4, y5, y6⟩ with _ | _
              · obtain ⟨hne, hsL⟩ := okL_false ho (setC (fun _ _ => false) f t true) L
                exact ⟨_, hid (Hbad.out _ hne rfl hsL)⟩
              · have h40 : L.length = 40 := by
                  rcases Nat.lt_or_ge L.length 40 with h | h
                  · exact absurd ⟨ho, h⟩ hok
                  · omega
                obtain ⟨h4, hsL⟩ := okL_full ho (C := (setC (fun _ _ => false) f t true)) h40
                exact ⟨4, hid (Hbad.out 4 (by decide) h4 hsL)⟩
            clear hok HS Hbad hmem
            go_wp2_with (refine (HKO.out.count).mono ?_; rintro e w6 ⟨rfl, rfl⟩)
            refine hen.out.mono ?_
            intro e w6 h6
            obtain ⟨he, h7, h8⟩ := h6
            subst he
            have hb6 := h8 w hwB hb
            obtain ⟨k0', k1', k2', k3', k4', k5', k6'⟩ := HC.out w6 hb6
            have H7 := hid h7
            have Hb6 := hid hb6
            have hz6 := hb6.size
            have hgr6 : g < w6.heap.size := by omega
            clear h7 h8 hb6 k0 k1 k2 k3 k4 k5 k6
            go_wp2_with fail
            all_goals
              go_roundw
              case rel => exact ⟨k + 1, L, by omega, by omega, by go_num, H7.out, Hsub.out, Hb6.out⟩
              case measure => simp [intOf]; omega
        · go_wp2_with fail
          go_meet
          exact ⟨L, 1, _, hKO, hsub, hb⟩
      · go_wp2_with fail
        go_meet
        exact ⟨L, 1, _, hKO, hsub, hb⟩
  case rest =>
  obtain ⟨L2, nc2, C2, hKO2, hsub2, hb2⟩ := hcut
  obtain ⟨we, rfl⟩ : ∃ we : World, we = wc := ⟨_, rfl⟩
  clear HK7 Hb7 Hmem
  go_upto_block 4 with fail
  go_cut [] (fun wx => ∃ (L : List Lt) (nc : Nat) (C : Int → Int → Bool), KO w4.heap.size (w4.heap.size + 1) w4.heap.size wx (.slice A SS.length c) SS L nc C ∧ (∀ y ∈ L, y ∈ SS) ∧ Below w.heap.size w wx)
  case first =>
    go_wp2_with fail
    go_loopw [21] (fun i wr => ∃ (k : Nat) (L : List Lt), k ≤ 40 ∧ k ≤ st.xs.length ∧ i = .int .i64 k ∧ KO w4.heap.size (w4.heap.size + 1) w4.heap.size wr (.slice A SS.length c) SS L nc2 C2 ∧ (∀ y ∈ L, y ∈ SS) ∧ Below w.heap.size w wr) (fun i _ => 40 - (intOf i).toNat)
    case atStart => exact ⟨0, L2, by omega, by omega, rfl, hKO2, hsub2, hb2⟩
    case round =>
      obtain ⟨k, L, hk40, hkl, rfl, hKO, hsub, hb⟩ := hrel
      clear hKO2 hsub2 hb2
      have hzb := hb.size
      by_cases h1 : k < st.xs.length
      · by_cases h2 : k < 40
        · obtain ⟨b, off, hA, hbl, hcells⟩ := hst.row (by omega)
          have hcell := (hb.cell (p := ⟨b, off + k, none⟩) hbl).trans (hcells k h1)
          have hin := hst.each k h1
          have hbr : b < wr.heap.size := by omega
          have HA := hid hA
          rw [hA]
          generalize st.xs[k] = rw_ at *
          clear hcells hA
          have Hb := hid hb
          have HKO := hid hKO
          have Hsub := hid hsub
          clear hKO hsub
          by_cases h22 : rw_.xs.length = 2
          · obtain ⟨b2, off2, hA2, hb2, hc2⟩ := hin.row (by omega)
            have x0 := (hb.cell (p := ⟨b2, off2 + 0, none⟩) hb2).trans (hc2 0 (by omega))
            have x1 := (hb.cell (p := ⟨b2, off2 + 1, none⟩) hb2).trans (hc2 1 (by omega))
            rw [Nat.add_zero] at x0
            generalize rw_.xs.getD 0 0 = a0 at *
            generalize rw_.xs.getD 1 0 = a1 at *
            rw [hA2] at hcell
            have HA2 := hid hA2
            have HLs := hid (HKO.out.lose a1)
            have HTw := hid (HKO.out.twice a1)
            rw [h22] at hcell
            clear hc2 hA2 hb hin
            have Hh := hid h22
            clear h22
            go_wp2_with fail
            all_goals
              first
                | refine HLs.out.mono ?_
                | refine HTw.out.mono ?_
              intro e w6 h6
              obtain ⟨he, h7, h8⟩ := h6
              subst he
              have H7 := hid h7
              have H8 := hid h8
              clear h7 h8
              go_wp2_with fail
              go_roundw
              case rel => exact ⟨k + 1, _, by omega, by omega, by go_num, H7.out, by first | exact giveL_sub Hsub.out _ | exact twiceL_sub Hsub.out _, H8.out w hwB Hb.out⟩
              case measure => simp [intOf]; omega
          · have h22' : ((rw_.xs.length : Int) == 2) = false := by rw [beq_eq_false_iff_ne]; omega
            have h22'' : ((rw_.xs.length : Int) != 2) = true := by simp only [bne, h22']; rfl
            go_wp2_with fail
            go_roundw
            case rel => exact ⟨k + 1, L, by omega, by omega, by go_num, HKO.out, Hsub.out, Hb.out⟩
            case measure => simp [intOf]; omega
        · go_wp2_with fail
          go_meet
          exact ⟨L, _, _, hKO, hsub, hb⟩
      · go_wp2_with fail
        go_meet
        exact ⟨L, _, _, hKO, hsub, hb⟩
  case rest =>
  obtain ⟨L3, nc3, C3, hKO3, hsub3, hb3⟩ := hcut
  obtain ⟨wf, rfl⟩ : ∃ wf : World, wf = wc := ⟨_, rfl⟩
  have Hb3' := hid hb3
  have HKO3 := hid hKO3
  have Hsub3 := hid hsub3
  have h40 := hKO3.lens
  clear hKO3 hsub3 hb3
  go_wp2_with fail
  go_loopw [22] (fun i wr => ∃ (k : Nat) (L : List Lt), L.length + k ≤ 40 ∧ i = .int .i64 k ∧ KO w4.heap.size (w4.heap.size + 1) w4.heap.size wr (.slice A SS.length c) SS L nc3 C3 ∧ (∀ y ∈ L, y ∈ SS) ∧ Below w.heap.size w wr) (fun i _ => 40 - (intOf i).toNat)
  case atStart => exact ⟨0, L3, by omega, rfl, HKO3.out, Hsub3.out, Hb3'.out⟩
  case round =>
    obtain ⟨k, L, hkL, rfl, hKO, hsub, hb⟩ := hrel
    clear HKO3 Hsub3 Hb3' h40
    have HCn := hid hKO.count
    have HKO := hid hKO
    have Hsub := hid hsub
    have Hb := hid hb
    have hzb := hb.size
    clear hKO hsub hb
    by_cases h0 : 0 < L.length
    · have h0' : (0 : Int) < (L.length : Int) := by omega
      have hk40 : k < 40 := by omega
      have hin : inB 0 L.length = true := inB_true.2 ⟨Int.le_refl _, h0'⟩
      have hyS : L.getD 0 Lt.zero ∈ SS := Hsub.out _ (getD_memD Lt.zero h0)
      have hG := HKO.out.give 0
      rw [giveY, if_pos hin, giveE, if_pos hin, giveL, if_pos hin, errV_zero] at hG
      have hLo : (Lt.out L 0).length + 1 = L.length := Lt.out_length h0
      have hLo2 : (Lt.out L 0).length + 1 ≤ L.length := by omega
      have Hsubo := hid (show ∀ y ∈ Lt.out L 0, y ∈ SS from fun y hy => by
        rcases List.mem_append.1 hy with hy | hy
        · exact Hsub.out y (List.mem_of_mem_take hy)
        · exact Hsub.out y (List.mem_of_mem_drop hy))
      obtain ⟨x, hx⟩ : ∃ x, L.getD (0 : Int).toNat Lt.zero = x := ⟨_, rfl⟩
      have hxS : x ∈ SS := by rw [← hx]; exact hyS
      rw [hx] at hG
      obtain ⟨x0, x1, x2, x3, x4, x5, x6⟩ := x
      have HG : Hid (Calls Try.prog 6 #[.pointer (some ⟨w4.heap.size + 1, 0, none⟩), .int .i64 0] wr (KRes w4.heap.size (w4.heap.size + 1) w4.heap.size (.slice A SS.length c) SS wr (.tuple #[.agg #[.int .i64 x0, .int .i64 x1, .int .i64 x2, .int .i64 x3, .int .i64 x4, .bool x5, .string x6], .nilIface]) (Lt.out L 0) nc3 C3)) := hid (by exact hG)
      have HxS := hid hxS
      clear hG hx hin hyS hLo hxS
      go_wp2_with (refine HCn.out.mono ?_; rintro e w6 ⟨rfl, rfl⟩)
      refine HG.out.mono ?_
      intro e w6 h6
      obtain ⟨he, h7, h8⟩ := h6
      subst he
      have hb6 := h8 w hwB Hb.out
      obtain ⟨v6, hO6, hOw6, hap6⟩ := h7
      have hLS : LtsAt w6 ⟨A, c, SS⟩ := by
        obtain ⟨r, hr, hrx, hrA, _, _⟩ := LtsAt.of_ow hOw6 HgS.out
        obtain ⟨rA, rc, rx⟩ := r
        simp only at hr hrx hrA
        injection hr with e1 e2 e3
        subst e1 hrx e3
        exact hrA
      have hlt6 : w4.heap.size < w6.heap.size := by have := hO6.blk.lt; omega
      have H7 := hid (show KO w4.heap.size (w4.heap.size + 1) w4.heap.size w6 (.slice A SS.length c) SS (Lt.out L 0) nc3 C3 from ⟨v6, hO6, hOw6, hap6⟩)
      have HLS := hid hLS
      have Hb6 := hid hb6
      have hz6 := hb6.size
      clear h8 hb6 hO6 hOw6 hap6 hLS
      go_wp2_with fail
      obtain ⟨wX, hwX⟩ : ∃ wX : World, wX = w6.alloc (.cells #[.int .i64 x0, .int .i64 x1, .int .i64 x2, .int .i64 x3, .int .i64 x4, .bool x5, .string x6] 32) := ⟨_, rfl⟩
      rw [← hwX]
      have hb6X : Below w6.heap.size w6 wX := by rw [hwX]; exact (Below.refl _ _).alloc (Nat.le_refl _) _
      have hX : Blk wX w6.heap.size 32 #[.int .i64 x0, .int .i64 x1, .int .i64 x2, .int .i64 x3, .int .i64 x4, .bool x5, .string x6] := by rw [hwX]; exact Blk.new _ _ _
      have HX := hid hX
      have hlX := hX.lt
      have H7X := hid (H7.out.belowS hb6X)
      have HLX := hid (HLS.out.stays hb6X)
      have HbX := hid (Below.step Hb6.out hb6X hz6)
      clear hwX hb6X hX
      go_loopw [25, 26] (fun b i wr => ∃ (q : Nat) (bb : Bool), q ≤ SS.length ∧ i = .int .i64 q ∧ b = .bool bb ∧ (∀ j, j < q → SS.getD j Lt.zero = ⟨x0, x1, x2, x3, x4, x5, x6⟩ → bb = true) ∧ Below wX.heap.size wX wr) (fun _ i _ => SS.length - (intOf i).toNat)
      case atStart => exact ⟨0, false, Nat.zero_le _, rfl, rfl, fun j hj => by omega, Below.refl _ _⟩
      case round =>
        obtain ⟨q, bb, hq, rfl, rfl, hbb, hby⟩ := hrel
        have hzy := hby.size
        by_cases hlt : q < SS.length
        · obtain ⟨g, off, hA, hgl, hcells⟩ := HLX.out.row (by show 0 < SS.length; omega)
          simp only at hA hcells
          obtain ⟨k0, k1, k2, k3, k4, k5, k6⟩ := (hcells q hlt).stays hby hgl
          have hgy : g < wr.heap.size := by omega
          have hXy := HX.out.belowS hby
          have c0 : wr.cell? ⟨w6.heap.size, 0, none⟩ = some (.int .i64 x0) := hXy.cell 0
          have c1 : wr.cell? ⟨w6.heap.size, 1, none⟩ = some (.int .i64 x1) := hXy.cell 1
          have c2 : wr.cell? ⟨w6.heap.size, 2, none⟩ = some (.int .i64 x2) := hXy.cell 2
          have c3 : wr.cell? ⟨w6.heap.size, 3, none⟩ = some (.int .i64 x3) := hXy.cell 3
          have c4 : wr.cell? ⟨w6.heap.size, 4, none⟩ = some (.int .i64 x4) := hXy.cell 4
          have c5 : wr.cell? ⟨w6.heap.size, 5, none⟩ = some (.bool x5) := hXy.cell 5
          have c6 : wr.cell? ⟨w6.heap.size, 6, none⟩ = some (.string x6) := hXy.cell 6
          have HA := hid hA
          rw [hA]
          have Hbb := hid hbb
          have Hby := hid hby
          have hq0 : (0 : Int) ≤ (q : Int) := by omega
          have hq1 : (q : Int) < (SS.length : Int) := by omega
          clear hA hcells hXy hbb hby
          cases bb with
          | true =>
            clear k0 k1 k2 k3 k4 k5 k6 c0 c1 c2 c3 c4 c5 c6
            go_wp2_with fail
            go_quiet (fail)
            go_wp2_with fail
            go_roundw
            case rel => exact ⟨q + 1, true, by omega, by go_num, rfl, fun _ _ _ => rfl, Below.manyDrew Hby.out _⟩
            case measure => simp [intOf]; omega
          | false =>
            have hold : ∀ j, j < q → SS.getD j Lt.zero ≠ ⟨x0, x1, x2, x3, x4, x5, x6⟩ := fun j hj h => by have := Hbb.out j hj h; cases this
            have Hold := hid hold
            clear hold
            generalize hy : SS.getD q Lt.zero = y at *
            have Hy := hid hy
            obtain ⟨y0, y1, y2, y3, y4, y5, y6⟩ := y
            simp only at k0 k1 k2 k3 k4 k5 k6
            clear hy
            by_cases hyx : (⟨y0, y1, y2, y3, y4, y5, y6⟩ : Lt) = ⟨x0, x1, x2, x3, x4, x5, x6⟩
            · injection hyx with e0 e1 e2 e3 e4 e5 e6
              subst e0 e1 e2 e3 e4 e5 e6
              go_wp2_with fail
              go_quiet (fail)
              go_wp2_with fail
              go_roundw
              case rel => exact ⟨q + 1, true, by omega, by go_num, rfl, fun _ _ _ => rfl, Below.manyDrew Hby.out _⟩
              case measure => simp [intOf]; omega
            · have Hyx := hid hyx
              clear hyx
              have heq := fun W => eqRunLt y0 y1 y2 y3 y4 y5 y6 x0 x1 x2 x3 x4 x5 x6 W
              go_wp2_with fail
              go_quiet (fail)
              go_wp2_with fail
              go_roundw
              case rel =>
                exact ⟨q + 1, _, by omega, by go_num, rfl, fun j hj h => by
                  by_cases hjq : j < q
                  · exact absurd h (Hold.out j hjq)
                  · obtain rfl : j = q := by omega
                    rw [Hy.out] at h
                    exact absurd h Hyx.out, Below.manyDrew Hby.out _⟩
              case measure => simp [intOf]; omega
        · obtain rfl : q = SS.length := by omega
          obtain ⟨j, hj, hjx⟩ := List.getElem_of_mem HxS.out
          obtain rfl : bb = true := hbb j hj (by rw [getD_get _ hj]; exact hjx)
          have Hby := hid hby
          clear hbb hby hjx
          go_wp2_with fail
          go_roundw
          case rel => exact ⟨k + 1, Lt.out L 0, by omega, by go_num, H7X.out.belowS Hby.out, Hsubo.out, Below.step HbX.out Hby.out (by omega)⟩
          case measure => simp [intOf]; omega
    · have hL0 : L.length = 0 := by omega
      have h0' : ¬ (0 : Int) < (L.length : Int) := by omega
      have hle : ((L.length : Int) == 0) = true := by rw [hL0]; rfl
      clear hL0
      by_cases hk : k < 40
      all_goals
        go_wp2_with (refine HCn.out.mono ?_; rintro e w6 ⟨rfl, rfl⟩)
        go_ret
        exact ⟨rfl, Hb.out⟩
set_option maxHeartbeats 16000000 in
set_option maxRecDepth 100000 in
theorem mailKeeps_not (l : SlV Lt) (st : SlV (SlV Int)) (f t : Int) (w : World) (hl : LtsAt w l) (hst : IntssAt w st) (hE : ¬ endsE f t = 0) :
    Calls Try.prog 3 #[.slice l.A l.xs.length l.c, .slice st.A st.xs.length st.c, .int .i64 f, .int .i64 t] w fun e w' => e = .returned (.bool true) ∧ Below w.heap.size w w' := by
  have HE := hid hE
  clear hE
  have hlen := hl.len
  have hlens := hst.len
  unfold maxLen at hlen hlens
  have hsend1 := hid (fun W (hO : MailO w.heap.size W (w.heap.size + 1) w.heap.size (.slice none 0 0) [] 0 (fun _ _ => false)) => show Calls Try.prog 5 #[.pointer (some ⟨w.heap.size + 1, 0, none⟩), .agg #[.int .i64 1, .int .i64 2, .int .i64 3, .int .i64 4, .int .i64 5, .bool false, .string ⟨#[120]⟩]] W (MRes w.heap.size (w.heap.size + 1) w.heap.size (.slice none 0 0) W .nilIface [⟨1, 2, 3, 4, 5, false, ⟨#[120]⟩⟩] 0 (fun _ _ => false)) from by
    have hg : (⟨1, 2, 3, 4, 5, false, ⟨#[120]⟩⟩ : Lt).good := ⟨⟨(show (-9223372036854775808 : Int) ≤ 1 by decide), (show (1 : Int) ≤ 9223372036854775807 by decide)⟩, ⟨(show (-9223372036854775808 : Int) ≤ 2 by decide), (show (2 : Int) ≤ 9223372036854775807 by decide)⟩, ⟨(show (-9223372036854775808 : Int) ≤ 3 by decide), (show (3 : Int) ≤ 9223372036854775807 by decide)⟩, ⟨(show (-9223372036854775808 : Int) ≤ 4 by decide), (show (4 : Int) ≤ 9223372036854775807 by decide)⟩, ⟨(show (-9223372036854775808 : Int) ≤ 5 by decide), (show (5 : Int) ≤ 9223372036854775807 by decide)⟩, trivial, (show (1 : Nat) ≤ maxLen by unfold maxLen; decide)⟩
    have hc : chkL ⟨1, 2, 3, 4, 5, false, ⟨#[120]⟩⟩ = 0 := by
      simp [chkL, chk, keyB, seqB]
      exact (show (1 : Int) ≤ 12 by decide)
    have ho : okL ⟨1, 2, 3, 4, 5, false, ⟨#[120]⟩⟩ = true := okL_true.2 ⟨rfl, hc⟩
    have := msend_any w.heap.size (w.heap.size + 1) w.heap.size 0 1 2 3 4 5 false ⟨#[120]⟩ hg (.slice none 0 0) [] (fun _ _ => false) W hO
    rw [okL_sendE ho, okL_sendL ho] at this
    exact this)
  have hgive1 := hid (fun v W (hO : MailO w.heap.size W (w.heap.size + 1) w.heap.size v [⟨1, 2, 3, 4, 5, false, ⟨#[120]⟩⟩] 0 (fun _ _ => false)) => show Calls Try.prog 6 #[.pointer (some ⟨w.heap.size + 1, 0, none⟩), .int .i64 0] W (MRes w.heap.size (w.heap.size + 1) w.heap.size v W (.tuple #[.agg #[.int .i64 1, .int .i64 2, .int .i64 3, .int .i64 4, .int .i64 5, .bool false, .string ⟨#[120]⟩], .nilIface]) [] 0 (fun _ _ => false)) from
    mgive_any w.heap.size (w.heap.size + 1) w.heap.size 0 0 v _ (fun _ _ => false) W hO)
  go_enter Try.func3, Try.ntmps3
  go_wp2_with fail
  refine (mnew_any _).mono ?_
  rintro e w1 ⟨rfl, hO1, hb1⟩
  have HO1 := hid hO1
  have Hb1 := hid hb1
  clear hO1 hb1
  go_wp2_with fail
  refine (hsend1.out _ HO1.out).mono ?_
  rintro e w2 ⟨v2, rfl, hO2, hF2, _⟩
  have HO2 := hid hO2
  have Hb2 := hid (Hb1.out.trans (hF2.below0 Hb1.out.size (fun i hi => (HO1.out.fml hi).1)))
  clear hO2 hF2
  go_wp2_with fail
  refine (hgive1.out _ _ HO2.out).mono ?_
  rintro e w3 ⟨v3, rfl, hO3, hF3, _⟩
  have HO3 := hid hO3
  have Hb3 := hid (Hb2.out.trans (hF3.below0 Hb2.out.size (fun i hi => (HO2.out.fml hi).1)))
  have hz3 := Hb3.out.size
  clear hO3 hF3
  go_wp2_with fail
  refine (mcount_any w.heap.size (w.heap.size + 1) w.heap.size 0 v3 [] _ _ (HO3.out.belowS (by (repeat (first | with_reducible exact Below.refl _ _ | with_reducible assumption | (with_reducible refine Below.drew ?_) | (with_reducible refine Below.manyDrew ?_ _) | ((with_reducible refine Below.alloc ?_ ?_ _); rotate_left; (focus (first | omega | (dsimp only; omega) | (simp; done) | (simp; omega)))) | ((with_reducible refine Below.setCell ?_ ?_ _); rotate_left; (focus (first | omega | (dsimp only; omega) | (simp; done) | (simp; omega)))) | ((with_reducible refine Below.step ?_ (by assumption) ?_); rotate_left; (focus (first | omega | (dsimp only; omega) | (simp; done) | (simp; omega))))))))).mono ?_
  rintro e w4 ⟨rfl, rfl⟩
  have hb4 : Below w.heap.size w (w3.alloc (.cells #[.int .i64 1, .int .i64 2, .int .i64 3, .int .i64 4, .int .i64 5, .bool false, .string ⟨#[120]⟩] 32)) := Hb3.out.alloc hz3 _
  go_wp2_with fail
  obtain ⟨w4, hw4⟩ : ∃ w4 : World, w4 = w3.alloc (.cells #[.int .i64 1, .int .i64 2, .int .i64 3, .int .i64 4, .int .i64 5, .bool false, .string ⟨#[120]⟩] 32) := ⟨_, rfl⟩
  rw [← hw4] at hb4 ⊢
  have Hb4 := hid hb4
  have hwB := hb4.size
  clear hb4 hw4
  refine (mnew_any _).mono ?_
  rintro e w5 ⟨rfl, hO5, hb5⟩
  have hb5' := Below.step Hb4.out hb5 Hb4.out.size
  have hKO0 : KO w4.heap.size (w4.heap.size + 1) w4.heap.size w5 (.slice none 0 0) (sentS l.xs 0) (sentS l.xs 0) 0 (fun _ _ => false) := ⟨_, hO5, Ow.nil _ _ _ _ _, fun i _ h => by cases h⟩
  have HKO0 := hid hKO0
  have Hb5 := hid hb5'
  clear hO5 hb5 hb5' hKO0
  go_upto_block 0 with fail
  go_cut [14] (fun u wx => KO w4.heap.size (w4.heap.size + 1) w4.heap.size wx u (sentS l.xs 20) (sentS l.xs 20) 0 (fun _ _ => false) ∧ Below w.heap.size w wx)
  case first =>
    go_wp2_with fail
    go_loopw [14, 15] (fun u i wr => ∃ k : Nat, k ≤ 20 ∧ k ≤ l.xs.length ∧ i = .int .i64 k ∧ KO w4.heap.size (w4.heap.size + 1) w4.heap.size wr u (sentS l.xs k) (sentS l.xs k) 0 (fun _ _ => false) ∧ Below w.heap.size w wr) (fun _ i _ => 20 - (intOf i).toNat)
    case atStart => exact ⟨0, by omega, by omega, rfl, HKO0.out, Hb5.out⟩
    case round =>
      obtain ⟨k, hk20, hkl, rfl, hKO, hb⟩ := hrel
      have hzb := hb.size
      by_cases h1 : k < l.xs.length
      · by_cases h2 : k < 20
        · obtain ⟨g, off, hA, hgl, hcells⟩ := hl.row (by omega)
          obtain ⟨k0, k1, k2, k3, k4, k5, k6⟩ := (hcells k h1).stays hb hgl
          have hyg := hl.each _ (getD_memD Lt.zero h1)
          have Hsn := hid (sentS_snoc h1)
          have hsl := sentS_length l.xs k
          have HA := hid hA
          rw [hA]
          have HC := hid (fun W (hW : Below w.heap.size w W) => (hcells k h1).stays hW hgl)
          clear hcells
          generalize l.xs.getD k Lt.zero = y at *
          obtain ⟨y0, y1, y2, y3, y4, y5, y6⟩ := y
          simp only at k0 k1 k2 k3 k4 k5 k6
          obtain ⟨v, hO, hOw, hap⟩ := hKO
          have hS := msend_any w4.heap.size (w4.heap.size + 1) w4.heap.size 0 y0 y1 y2 y3 y4 y5 y6 hyg v _ (fun _ _ => false) wr hO
          have hgr : g < wr.heap.size := by omega
          have Hfin := hid (fun (ret : Value) (L' : List Lt) (nc' : Nat) (C' : Int → Int → Bool) (e : Ending) (w' : World) (h : MRes w4.heap.size (w4.heap.size + 1) w4.heap.size v wr ret L' nc' C' e w') => KO.deed hO hOw hap h)
          clear hA hyg
          rcases ho : okL ⟨y0, y1, y2, y3, y4, y5, y6⟩ with _ | _
          · obtain ⟨hne, hsL⟩ := okL_false ho (fun _ _ => false) (sentS l.xs k)
            rw [errV_ne hne, hsL] at hS
            rw [ho, if_neg (by decide)] at Hsn
            have HS := hid hS
            generalize sendE (sentS l.xs k) _ = en at *
            clear hS hO hOw hap hsL ho HC
            go_wp2_with fail
            refine HS.out.mono ?_
            intro e w6 h6
            obtain ⟨he, h7, h8⟩ := Hfin.out _ _ _ _ e w6 h6
            subst he
            have H7 := hid h7
            have H8 := hid h8
            clear h6 h7 h8 hne
            go_wp2_with fail
            go_roundw
            case rel => exact ⟨k + 1, by omega, by omega, by go_num, by rw [Hsn.out]; exact H7.out, H8.out _ hwB hb⟩
            case measure => simp [intOf]; omega
          · have hsE := okL_sendE ho (sentS l.xs k)
            have hsL := okL_no ho (C := fun _ _ => false) (L := sentS l.xs k) rfl (by omega)
            rw [hsE, putE_lt (by omega), errV_zero, hsL] at hS
            rw [ho, if_pos rfl] at Hsn
            have HS := hid hS
            clear hS hO hOw hap hsL ho hsE
            go_wp2_with fail
            refine HS.out.mono ?_
            intro e w6 h6
            obtain ⟨he, h7, h8⟩ := Hfin.out _ _ _ _ e w6 h6
            subst he
            have hb6 := h8 w hwB hb
            obtain ⟨k0', k1', k2', k3', k4', k5', k6'⟩ := HC.out w6 hb6
            have hz6 := hb6.size
            have hgr6 : g < w6.heap.size := by omega
            obtain ⟨v6, hO6, hOw6, hap6⟩ := h7
            have hw46 : w4.heap.size ≤ w6.heap.size := by have := hO6.blk.lt; omega
            have Hb6 := hid hb6
            have HO6 := hid hO6
            have HOw6 := hid hOw6
            have Hap6 := hid hap6
            clear h6 h8 hb6 hO6 hOw6 hap6 k0 k1 k2 k3 k4 k5 k6
            go_wp2_with (at_builtin; refine appLt _ w4.heap.size _ (sentS l.xs k) y0 y1 y2 y3 y4 y5 y6 HOw6.out rfl _ _ rfl rfl rfl ?_ ?_ ?_ ?_)
            all_goals try (first | omega | (simp; done) | (simp; omega))
            intro v8 w8 h8 f8 o8
            have hfin : KO w4.heap.size (w4.heap.size + 1) w4.heap.size w8 v8 (sentS l.xs (k + 1)) (sentS l.xs (k + 1)) 0 (fun _ _ => false) := by
              rw [Hsn.out]
              refine ⟨v6, HO6.out.fr f8 (fun i hi h => Hap6.out i hi h.symm), h8, fun i hi h => ?_⟩
              rcases o8 with o | o
              · exact Hap6.out i hi (by rw [← o, h])
              · rw [h] at o; cases o
                have := (HO6.out.fml hi).2
                omega
            have hb8 : Below w.heap.size w w8 := Hb6.out.trans (f8.below0 (by omega) (fun i hi => Nat.le_trans hwB (HOw6.out.ge i hi)))
            have Hfin8 := hid hfin
            have Hb8 := hid hb8
            clear hfin hb8 h8 f8 o8
            go_wp2_with fail
            go_roundw
            case rel => exact ⟨k + 1, by omega, by omega, by go_num, Hfin8.out, Hb8.out⟩
            case measure => simp [intOf]; omega
        · go_wp2_with fail
          go_meet
          obtain rfl : k = 20 := by omega
          exact ⟨hKO, hb⟩
      · go_wp2_with fail
        go_meet
        have he : sentS l.xs 20 = sentS l.xs k := by unfold sentS; rw [List.take_of_length_le (by omega), List.take_of_length_le (by omega)]
        rw [he]
        exact ⟨hKO, hb⟩
  case rest =>
  obtain ⟨hKO, hb⟩ := hcut
  have HgS := hid (show ∀ y ∈ sentS l.xs 20, y.good from fun y hy => hl.each y (List.mem_of_mem_take (List.mem_filter.1 hy).1))
  generalize hSS : sentS l.xs 20 = SS at *
  obtain ⟨v, hO, hOw, hap⟩ := hKO
  obtain ⟨A, c, hu, _, hcS, _⟩ := hOw.form
  have hSl : SS.length ≤ 20 := by rw [← hSS]; exact sentS_length _ _
  have Hmem := hid (fun (k : Nat) (h1 : k < l.xs.length) (h2 : k < 20) (h3 : okL (l.xs.getD k Lt.zero) = true) => show l.xs.getD k Lt.zero ∈ SS from by rw [← hSS]; exact sentS_mem h1 h2 h3)
  have hCut := mcut_any w4.heap.size (w4.heap.size + 1) w4.heap.size 0 f t true v SS (fun _ _ => false) _ hO (by decide)
  rw [if_neg HE.out, errV_ne HE.out] at hCut
  have hCnt := mcount_any w4.heap.size (w4.heap.size + 1) w4.heap.size 0 v SS (fun _ _ => false) _ hO
  have Hfin := hid (fun (ret : Value) (L' : List Lt) (nc' : Nat) (C' : Int → Int → Bool) (e : Ending) (w' : World) (h : MRes w4.heap.size (w4.heap.size + 1) w4.heap.size v wc ret L' nc' C' e w') => KO.deed hO hOw hap h)
  have HCut := hid hCut
  have HCnt := hid hCnt
  subst hu
  obtain ⟨wd, rfl⟩ : ∃ wd : World, wd = wc := ⟨_, rfl⟩
  clear hCut hCnt hSS hO hOw hap HKO0
  go_wp2_with fail
  refine HCnt.out.mono ?_
  rintro e w6 ⟨rfl, rfl⟩
  go_wp2_with fail
  refine HCut.out.mono ?_
  intro e w7 h7
  obtain ⟨he, hK7, hb7⟩ := Hfin.out _ _ _ _ e w7 h7
  subst he
  have Hb7 := hid (hb7 w hwB hb)
  have HK7 := hid hK7
  clear h7 hK7 hb7 hb
  go_upto_block 2 with fail
  go_cut [] (fun wx => ∃ (L : List Lt) (nc : Nat) (C : Int → Int → Bool), KO w4.heap.size (w4.heap.size + 1) w4.heap.size wx (.slice A SS.length c) SS L nc C ∧ (∀ y ∈ L, y ∈ SS) ∧ Below w.heap.size w wx)
  case first =>
    go_wp2_with fail
    go_loopw [17] (fun i wr => ∃ (k : Nat) (L : List Lt), k ≤ 20 ∧ k ≤ l.xs.length ∧ i = .int .i64 k ∧ KO w4.heap.size (w4.heap.size + 1) w4.heap.size wr (.slice A SS.length c) SS L 1 (fun _ _ => false) ∧ (∀ y ∈ L, y ∈ SS) ∧ Below w.heap.size w wr) (fun i _ => 20 - (intOf i).toNat)
    case atStart => exact ⟨0, SS, by omega, by omega, rfl, HK7.out, fun y hy => hy, Hb7.out⟩
    case round =>
      obtain ⟨k, L, hk20, hkl, rfl, hKO, hsub, hb⟩ := hrel
      have hzb := hb.size
      by_cases h1 : k < l.xs.length
      · by_cases h2 : k < 20
        · obtain ⟨g, off, hA, hgl, hcells⟩ := hl.row (by omega)
          obtain ⟨k0, k1, k2, k3, k4, k5, k6⟩ := (hcells k h1).stays hb hgl
          have hyg := hl.each _ (getD_memD Lt.zero h1)
          have hmem := Hmem.out k h1 h2
          have HA := hid hA
          rw [hA]
          have HC := hid (fun W (hW : Below w.heap.size w W) => (hcells k h1).stays hW hgl)
          clear hcells
          generalize l.xs.getD k Lt.zero = y at *
          obtain ⟨y0, y1, y2, y3, y4, y5, y6⟩ := y
          simp only at k0 k1 k2 k3 k4 k5 k6
          have hS := hKO.send y0 y1 y2 y3 y4 y5 y6 hyg
          have hgr : g < wr.heap.size := by omega
          have hL40 := hKO.lens
          have HKO := hid hKO
          have Hsub := hid hsub
          clear hA hyg hKO hsub
          have hbad : ∀ en : Int, en ≠ 0 → sendE L ⟨y0, y1, y2, y3, y4, y5, y6⟩ = en → sendL (fun _ _ => false) L ⟨y0, y1, y2, y3, y4, y5, y6⟩ = L → Calls Try.prog 5 #[.pointer (some ⟨w4.heap.size + 1, 0, none⟩), .agg #[.int .i64 y0, .int .i64 y1, .int .i64 y2, .int .i64 y3, .int .i64 y4, .bool y5, .string y6]] wr
              (KRes w4.heap.size (w4.heap.size + 1) w4.heap.size (.slice A SS.length c) SS wr (.iface 47 (.int .i64 en)) L 1 (fun _ _ => false)) := fun en h1 h2 h3 => by
            rw [h2, errV_ne h1, h3] at hS
            exact hS
          have Hbad := hid hbad
          have HS := hid hS
          clear hbad hS
          by_cases hok : okL ⟨y0, y1, y2, y3, y4, y5, y6⟩ = true ∧ L.length < 40
          · obtain ⟨ho, h40⟩ := hok
            have hmy := hmem ho
            have hsE := okL_sendE ho L
            rcases hc : (fun _ _ => false) y0 y1 with _ | _
            · have hsL := okL_no ho (C := (fun _ _ => false)) (L := L) hc h40
              have HS2 : Hid (Calls Try.prog 5 #[.pointer (some ⟨w4.heap.size + 1, 0, none⟩), .agg #[.int .i64 y0, .int .i64 y1, .int .i64 y2, .int .i64 y3, .int .i64 y4, .bool y5, .string y6]] wr (KRes w4.heap.size (w4.heap.size + 1) w4.heap.size (.slice A SS.length c) SS wr .nilIface (L ++ [⟨y0, y1, y2, y3, y4, y5, y6⟩]) 1 (fun _ _ => false))) := hid (by
                have := HS.out
                rw [hsE, putE_lt h40, errV_zero, hsL] at this
                exact this)
              have Hsub2 := hid (snoc_sub Hsub.out hmy)
              have Hc := hid hc
              clear HS Hbad hmem hmy hsE hsL ho h40 hc
              go_wp2_with (refine (HKO.out.count).mono ?_; rintro e w6 ⟨rfl, rfl⟩)
              refine HS2.out.mono ?_
              intro e w6 h6
              obtain ⟨he, h7, h8⟩ := h6
              subst he
              have hb6 := h8 w hwB hb
              obtain ⟨k0', k1', k2', k3', k4', k5', k6'⟩ := HC.out w6 hb6
              have hcnt := h7.count
              rw [List.length_append, List.length_singleton] at hcnt
              have HCn : Hid (Calls Try.prog 7 #[.pointer (some ⟨w4.heap.size + 1, 0, none⟩)] w6 fun e w' => e = .returned (.int .i64 ((L.length : Int) + 1)) ∧ w6 = w') := hid (by exact hcnt)
              have H7 := hid h7
              have Hb6 := hid hb6
              have hz6 := hb6.size
              have hgr6 : g < w6.heap.size := by omega
              clear h7 h8 hb6 k0 k1 k2 k3 k4 k5 k6 hcnt
              go_wp2_with (refine HCn.out.mono ?_; rintro e w7 ⟨rfl, rfl⟩)
              go_roundw
              case rel => exact ⟨k + 1, _, by omega, by omega, by go_num, H7.out, Hsub2.out, Hb6.out⟩
              case measure => simp [intOf]; omega
            · cases hc
          · obtain ⟨en, hen⟩ : ∃ en : Int, Hid (Calls Try.prog 5 #[.pointer (some ⟨w4.heap.size + 1, 0, none⟩), .agg #[.int .i64 y0, .int .i64 y1, .int .i64 y2, .int .i64 y3, .int .i64 y4, .bool y5, .string y6]] wr
              (KRes w4.heap.size (w4.heap.size + 1) w4.heap.size (.slice A SS.length c) SS wr (.iface 47 (.int .i64 en)) L 1 (fun _ _ => false))) := by
              rcases ho : okL ⟨y0, y1, y2, y3, y4, y5, y6⟩ with _ | _
              · obtain ⟨hne, hsL⟩ := okL_false ho (fun _ _ => false) L
                exact ⟨_, hid (Hbad.out _ hne rfl hsL)⟩
              · have h40 : L.length = 40 := by
                  rcases Nat.lt_or_ge L.length 40 with h | h
                  · exact absurd ⟨ho, h⟩ hok
                  · omega
                obtain ⟨h4, hsL⟩ := okL_full ho (C := (fun _ _ => false)) h40
                exact ⟨4, hid (Hbad.out 4 (by decide) h4 hsL)⟩
            clear hok HS Hbad hmem
            go_wp2_with (refine (HKO.out.count).mono ?_; rintro e w6 ⟨rfl, rfl⟩)
            refine hen.out.mono ?_
            intro e w6 h6
            obtain ⟨he, h7, h8⟩ := h6
            subst he
            have hb6 := h8 w hwB hb
            obtain ⟨k0', k1', k2', k3', k4', k5', k6'⟩ := HC.out w6 hb6
            have H7 := hid h7
            have Hb6 := hid hb6
            have hz6 := hb6.size
            have hgr6 : g < w6.heap.size := by omega
            clear h7 h8 hb6 k0 k1 k2 k3 k4 k5 k6
            go_wp2_with fail
            all_goals
              go_roundw
              case rel => exact ⟨k + 1, L, by omega, by omega, by go_num, H7.out, Hsub.out, Hb6.out⟩
              case measure => simp [intOf]; omega
        · go_wp2_with fail
          go_meet
          exact ⟨L, 1, _, hKO, hsub, hb⟩
      · go_wp2_with fail
        go_meet
        exact ⟨L, 1, _, hKO, hsub, hb⟩
  case rest =>
  obtain ⟨L2, nc2, C2, hKO2, hsub2, hb2⟩ := hcut
  obtain ⟨we, rfl⟩ : ∃ we : World, we = wc := ⟨_, rfl⟩
  clear HK7 Hb7 Hmem
  go_upto_block 4 with fail
  go_cut [] (fun wx => ∃ (L : List Lt) (nc : Nat) (C : Int → Int → Bool), KO w4.heap.size (w4.heap.size + 1) w4.heap.size wx (.slice A SS.length c) SS L nc C ∧ (∀ y ∈ L, y ∈ SS) ∧ Below w.heap.size w wx)
  case first =>
    go_wp2_with fail
    go_loopw [21] (fun i wr => ∃ (k : Nat) (L : List Lt), k ≤ 40 ∧ k ≤ st.xs.length ∧ i = .int .i64 k ∧ KO w4.heap.size (w4.heap.size + 1) w4.heap.size wr (.slice A SS.length c) SS L nc2 C2 ∧ (∀ y ∈ L, y ∈ SS) ∧ Below w.heap.size w wr) (fun i _ => 40 - (intOf i).toNat)
    case atStart => exact ⟨0, L2, by omega, by omega, rfl, hKO2, hsub2, hb2⟩
    case round =>
      obtain ⟨k, L, hk40, hkl, rfl, hKO, hsub, hb⟩ := hrel
      clear hKO2 hsub2 hb2
      have hzb := hb.size
      by_cases h1 : k < st.xs.length
      · by_cases h2 : k < 40
        · obtain ⟨b, off, hA, hbl, hcells⟩ := hst.row (by omega)
          have hcell := (hb.cell (p := ⟨b, off + k, none⟩) hbl).trans (hcells k h1)
          have hin := hst.each k h1
          have hbr : b < wr.heap.size := by omega
          have HA := hid hA
          rw [hA]
          generalize st.xs[k] = rw_ at *
          clear hcells hA
          have Hb := hid hb
          have HKO := hid hKO
          have Hsub := hid hsub
          clear hKO hsub
          by_cases h22 : rw_.xs.length = 2
          · obtain ⟨b2, off2, hA2, hb2, hc2⟩ := hin.row (by omega)
            have x0 := (hb.cell (p := ⟨b2, off2 + 0, none⟩) hb2).trans (hc2 0 (by omega))
            have x1 := (hb.cell (p := ⟨b2, off2 + 1, none⟩) hb2).trans (hc2 1 (by omega))
            rw [Nat.add_zero] at x0
            generalize rw_.xs.getD 0 0 = a0 at *
            generalize rw_.xs.getD 1 0 = a1 at *
            rw [hA2] at hcell
            have HA2 := hid hA2
            have HLs := hid (HKO.out.lose a1)
            have HTw := hid (HKO.out.twice a1)
            rw [h22] at hcell
            clear hc2 hA2 hb hin
            have Hh := hid h22
            clear h22
            go_wp2_with fail
            all_goals
              first
                | refine HLs.out.mono ?_
                | refine HTw.out.mono ?_
              intro e w6 h6
              obtain ⟨he, h7, h8⟩ := h6
              subst he
              have H7 := hid h7
              have H8 := hid h8
              clear h7 h8
              go_wp2_with fail
              go_roundw
              case rel => exact ⟨k + 1, _, by omega, by omega, by go_num, H7.out, by first | exact giveL_sub Hsub.out _ | exact twiceL_sub Hsub.out _, H8.out w hwB Hb.out⟩
              case measure => simp [intOf]; omega
          · have h22' : ((rw_.xs.length : Int) == 2) = false := by rw [beq_eq_false_iff_ne]; omega
            have h22'' : ((rw_.xs.length : Int) != 2) = true := by simp only [bne, h22']; rfl
            go_wp2_with fail
            go_roundw
            case rel => exact ⟨k + 1, L, by omega, by omega, by go_num, HKO.out, Hsub.out, Hb.out⟩
            case measure => simp [intOf]; omega
        · go_wp2_with fail
          go_meet
          exact ⟨L, _, _, hKO, hsub, hb⟩
      · go_wp2_with fail
        go_meet
        exact ⟨L, _, _, hKO, hsub, hb⟩
  case rest =>
  obtain ⟨L3, nc3, C3, hKO3, hsub3, hb3⟩ := hcut
  obtain ⟨wf, rfl⟩ : ∃ wf : World, wf = wc := ⟨_, rfl⟩
  have Hb3' := hid hb3
  have HKO3 := hid hKO3
  have Hsub3 := hid hsub3
  have h40 := hKO3.lens
  clear hKO3 hsub3 hb3
  go_wp2_with fail
  go_loopw [22] (fun i wr => ∃ (k : Nat) (L : List Lt), L.length + k ≤ 40 ∧ i = .int .i64 k ∧ KO w4.heap.size (w4.heap.size + 1) w4.heap.size wr (.slice A SS.length c) SS L nc3 C3 ∧ (∀ y ∈ L, y ∈ SS) ∧ Below w.heap.size w wr) (fun i _ => 40 - (intOf i).toNat)
  case atStart => exact ⟨0, L3, by omega, rfl, HKO3.out, Hsub3.out, Hb3'.out⟩
  case round =>
    obtain ⟨k, L, hkL, rfl, hKO, hsub, hb⟩ := hrel
    clear HKO3 Hsub3 Hb3' h40
    have HCn := hid hKO.count
    have HKO := hid hKO
    have Hsub := hid hsub
    have Hb := hid hb
    have hzb := hb.size
    clear hKO hsub hb
    by_cases h0 : 0 < L.length
    · have h0' : (0 : Int) < (L.length : Int) := by omega
      have hk40 : k < 40 := by omega
      have hin : inB 0 L.length = true := inB_true.2 ⟨Int.le_refl _, h0'⟩
      have hyS : L.getD 0 Lt.zero ∈ SS := Hsub.out _ (getD_memD Lt.zero h0)
      have hG := HKO.out.give 0
      rw [giveY, if_pos hin, giveE, if_pos hin, giveL, if_pos hin, errV_zero] at hG
      have hLo : (Lt.out L 0).length + 1 = L.length := Lt.out_length h0
      have hLo2 : (Lt.out L 0).length + 1 ≤ L.length := by omega
      have Hsubo := hid (show ∀ y ∈ Lt.out L 0, y ∈ SS from fun y hy => by
        rcases List.mem_append.1 hy with hy | hy
        · exact Hsub.out y (List.mem_of_mem_take hy)
        · exact Hsub.out y (List.mem_of_mem_drop hy))
      obtain ⟨x, hx⟩ : ∃ x, L.getD (0 : Int).toNat Lt.zero = x := ⟨_, rfl⟩
      have hxS : x ∈ SS := by rw [← hx]; exact hyS
      rw [hx] at hG
      obtain ⟨x0, x1, x2, x3, x4, x5, x6⟩ := x
      have HG : Hid (Calls Try.prog 6 #[.pointer (some ⟨w4.heap.size + 1, 0, none⟩), .int .i64 0] wr (KRes w4.heap.size (w4.heap.size + 1) w4.heap.size (.slice A SS.length c) SS wr (.tuple #[.agg #[.int .i64 x0, .int .i64 x1, .int .i64 x2, .int .i64 x3, .int .i64 x4, .bool x5, .string x6], .nilIface]) (Lt.out L 0) nc3 C3)) := hid (by exact hG)
      have HxS := hid hxS
      clear hG hx hin hyS hLo hxS
      go_wp2_with (refine HCn.out.mono ?_; rintro e w6 ⟨rfl, rfl⟩)
      refine HG.out.mono ?_
      intro e w6 h6
      obtain ⟨he, h7, h8⟩ := h6
      subst he
      have hb6 := h8 w hwB Hb.out
      obtain ⟨v6, hO6, hOw6, hap6⟩ := h7
      have hLS : LtsAt w6 ⟨A, c, SS⟩ := by
        obtain ⟨r, hr, hrx, hrA, _, _⟩ := LtsAt.of_ow hOw6 HgS.out
        obtain ⟨rA, rc, rx⟩ := r
        simp only at hr hrx hrA
        injection hr with e1 e2 e3
        subst e1 hrx e3
        exact hrA
      have hlt6 : w4.heap.size < w6.heap.size := by have := hO6.blk.lt; omega
      have H7 := hid (show KO w4.heap.size (w4.heap.size + 1) w4.heap.size w6 (.slice A SS.length c) SS (Lt.out L 0) nc3 C3 from ⟨v6, hO6, hOw6, hap6⟩)
      have HLS := hid hLS
      have Hb6 := hid hb6
      have hz6 := hb6.size
      clear h8 hb6 hO6 hOw6 hap6 hLS
      go_wp2_with fail
      obtain ⟨wX, hwX⟩ : ∃ wX : World, wX = w6.alloc (.cells #[.int .i64 x0, .int .i64 x1, .int .i64 x2, .int .i64 x3, .int .i64 x4, .bool x5, .string x6] 32) := ⟨_, rfl⟩
      rw [← hwX]
      have hb6X : Below w6.heap.size w6 wX := by rw [hwX]; exact (Below.refl _ _).alloc (Nat.le_refl _) _
      have hX : Blk wX w6.heap.size 32 #[.int .i64 x0, .int .i64 x1, .int .i64 x2, .int .i64 x3, .int .i64 x4, .bool x5, .string x6] := by rw [hwX]; exact Blk.new _ _ _
      have HX := hid hX
      have hlX := hX.lt
      have H7X := hid (H7.out.belowS hb6X)
      have HLX := hid (HLS.out.stays hb6X)
      have HbX := hid (Below.step Hb6.out hb6X hz6)
      clear hwX hb6X hX
      go_loopw [25, 26] (fun b i wr => ∃ (q : Nat) (bb : Bool), q ≤ SS.length ∧ i = .int .i64 q ∧ b = .bool bb ∧ (∀ j, j < q → SS.getD j Lt.zero = ⟨x0, x1, x2, x3, x4, x5, x6⟩ → bb = true) ∧ Below wX.heap.size wX wr) (fun _ i _ => SS.length - (intOf i).toNat)
      case atStart => exact ⟨0, false, Nat.zero_le _, rfl, rfl, fun j hj => by omega, Below.refl _ _⟩
      case round =>
        obtain ⟨q, bb, hq, rfl, rfl, hbb, hby⟩ := hrel
        have hzy := hby.size
        by_cases hlt : q < SS.length
        · obtain ⟨g, off, hA, hgl, hcells⟩ := HLX.out.row (by show 0 < SS.length; omega)
          simp only at hA hcells
          obtain ⟨k0, k1, k2, k3, k4, k5, k6⟩ := (hcells q hlt).stays hby hgl
          have hgy : g < wr.heap.size := by omega
          have hXy := HX.out.belowS hby
          have c0 : wr.cell? ⟨w6.heap.size, 0, none⟩ = some (.int .i64 x0) := hXy.cell 0
          have c1 : wr.cell? ⟨w6.heap.size, 1, none⟩ = some (.int .i64 x1) := hXy.cell 1
          have c2 : wr.cell? ⟨w6.heap.size, 2, none⟩ = some (.int .i64 x2) := hXy.cell 2
          have c3 : wr.cell? ⟨w6.heap.size, 3, none⟩ = some (.int .i64 x3) := hXy.cell 3
          have c4 : wr.cell? ⟨w6.heap.size, 4, none⟩ = some (.int .i64 x4) := hXy.cell 4
          have c5 : wr.cell? ⟨w6.heap.size, 5, none⟩ = some (.bool x5) := hXy.cell 5
          have c6 : wr.cell? ⟨w6.heap.size, 6, none⟩ = some (.string x6) := hXy.cell 6
          have HA := hid hA
          rw [hA]
          have Hbb := hid hbb
          have Hby := hid hby
          have hq0 : (0 : Int) ≤ (q : Int) := by omega
          have hq1 : (q : Int) < (SS.length : Int) := by omega
          clear hA hcells hXy hbb hby
          cases bb with
          | true =>
            clear k0 k1 k2 k3 k4 k5 k6 c0 c1 c2 c3 c4 c5 c6
            go_wp2_with fail
            go_quiet (fail)
            go_wp2_with fail
            go_roundw
            case rel => exact ⟨q + 1, true, by omega, by go_num, rfl, fun _ _ _ => rfl, Below.manyDrew Hby.out _⟩
            case measure => simp [intOf]; omega
          | false =>
            have hold : ∀ j, j < q → SS.getD j Lt.zero ≠ ⟨x0, x1, x2, x3, x4, x5, x6⟩ := fun j hj h => by have := Hbb.out j hj h; cases this
            have Hold := hid hold
            clear hold
            generalize hy : SS.getD q Lt.zero = y at *
            have Hy := hid hy
            obtain ⟨y0, y1, y2, y3, y4, y5, y6⟩ := y
            simp only at k0 k1 k2 k3 k4 k5 k6
            clear hy
            by_cases hyx : (⟨y0, y1, y2, y3, y4, y5, y6⟩ : Lt) = ⟨x0, x1, x2, x3, x4, x5, x6⟩
            · injection hyx with e0 e1 e2 e3 e4 e5 e6
              subst e0 e1 e2 e3 e4 e5 e6
              go_wp2_with fail
              go_quiet (fail)
              go_wp2_with fail
              go_roundw
              case rel => exact ⟨q + 1, true, by omega, by go_num, rfl, fun _ _ _ => rfl, Below.manyDrew Hby.out _⟩
              case measure => simp [intOf]; omega
            · have Hyx := hid hyx
              clear hyx
              have heq := fun W => eqRunLt y0 y1 y2 y3 y4 y5 y6 x0 x1 x2 x3 x4 x5 x6 W
              go_wp2_with fail
              go_quiet (fail)
              go_wp2_with fail
              go_roundw
              case rel =>
                exact ⟨q + 1, _, by omega, by go_num, rfl, fun j hj h => by
                  by_cases hjq : j < q
                  · exact absurd h (Hold.out j hjq)
                  · obtain rfl : j = q := by omega
                    rw [Hy.out] at h
                    exact absurd h Hyx.out, Below.manyDrew Hby.out _⟩
              case measure => simp [intOf]; omega
        · obtain rfl : q = SS.length := by omega
          obtain ⟨j, hj, hjx⟩ := List.getElem_of_mem HxS.out
          obtain rfl : bb = true := hbb j hj (by rw [getD_get _ hj]; exact hjx)
          have Hby := hid hby
          clear hbb hby hjx
          go_wp2_with fail
          go_roundw
          case rel => exact ⟨k + 1, Lt.out L 0, by omega, by go_num, H7X.out.belowS Hby.out, Hsubo.out, Below.step HbX.out Hby.out (by omega)⟩
          case measure => simp [intOf]; omega
    · have hL0 : L.length = 0 := by omega
      have h0' : ¬ (0 : Int) < (L.length : Int) := by omega
      have hle : ((L.length : Int) == 0) = true := by rw [hL0]; rfl
      clear hL0
      by_cases hk : k < 40
      all_goals
        go_wp2_with (refine HCn.out.mono ?_; rintro e w6 ⟨rfl, rfl⟩)
        go_ret
        exact ⟨rfl, Hb.out⟩

set_option maxRecDepth 100000 in
theorem mailKeeps_walk : LawWalk Try.prog 3 Try.f3 (fun _ => True) := by
  intro W base args H enc ds p hval hA _
  rw [Try.params3] at hA hval
  obtain ⟨v0, v1, v2, v3, d0, d1, d2, d3, p0, p1, p2, p3, rfl, rfl, rfl, h0, h1, h2, h3⟩ := trodAll_four hA
  obtain ⟨l, rfl, hl⟩ := arg_slice Try.underlying22 codecLt (pos_of_eq Try.cellsLt (by decide)) (hval 0 22 v0 rfl rfl) h0
  obtain ⟨st, rfl, hst⟩ := arg_slice Try.underlying23 codecInts (pos_of_eq Try.cellsInts (by decide)) (hval 1 23 v1 rfl rfl) h1
  obtain ⟨f, rfl, _⟩ := arg_int Try.underlying3 (hval 2 3 v2 rfl rfl) h2
  obtain ⟨t, rfl, _⟩ := arg_int Try.underlying3 (hval 3 3 v3 rfl rfl) h3
  by_cases hE : endsE f t = 0
  · exact mailKeeps_cut l st f t W (LtsAt_of hl) (intssAt_of hst) hE
  · exact mailKeeps_not l st f t W (LtsAt_of hl) (intssAt_of hst) hE

set_option maxRecDepth 100000 in
theorem mailKeeps_lifted (os : Os) (started : os.Started) (H : Type) (enc : TypeId × Value → H) :
    ReturnsInHanded {} Try.checked os 3 .any (Rows.mailKeepsSpec.pre6 enc Try.prog Try.f3 Rows.mailKeepsRow.domain false) (Rows.mailKeepsSpec.post enc Try.prog Try.f3 false true false false) :=
  law_lifted (C := Try.checked) Rows.mailKeepsRow.domain Try.own started (by kernel_rfl) Try.func3 Try.laidOut (by kernel_rfl) rfl Try.underlying4 rfl (fun ds h => by match ds, h with | [_, _, _, _], _ => rfl)
    (ChangeSpec.witness6 (enc := enc) (C := Try.checked) false ⟨#[], #[.slice none 0 0, .slice none 0 0, .int .i64 0, .int .i64 0], []⟩ 8 (by kernel_rfl) (by kernel_rfl) (by kernel_rfl) (by kernel_rfl)) mailKeeps_walk

theorem mailKeeps_holds : Rows.MailKeepsSaid :=
  OpenClaim.holds_of_wide 3 Try.f3 rfl rfl rfl rfl rfl rfl rfl ⟨rfl, rfl, rfl, rfl, rfl⟩ rfl rfl rfl rfl rfl (by kernel_rfl) Try.func3 (by kernel_rfl)
    (of_decide_eq_true (by kernel_rfl)) (by unfold Func.isWrapper; rw [if_neg (of_decide_eq_false (by kernel_rfl))]; exact ⟨rfl, rfl⟩)
    (fun os started H enc _ => mailKeeps_lifted os started H enc)

end Go.Proofs.Ytdkmaihekhgdgaa
