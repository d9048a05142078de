/-
  CONTRACTS: view.Both, view.Answer. CONDITIONS: none.
-/
import Derived.Test.YtgamocljdbffpaaDoorView3
import Derived.Laws.EntriesVeiled
namespace Go.Proofs.YtgamocljdbffpaaDoor
open Go.RowKit
open Go.ChangeShapes Go.WideShapes Go.ChangeAt

def VBRes (w : World) (r : List M × Int) (e : Ending) (w' : World) : Prop :=
  ∃ v, e = .returned (.tuple #[v, errV r.2]) ∧ Ow M.cells 3 w.heap.size 52 w' v r.1 ∧ Below w.heap.size w w'

set_option maxHeartbeats 4000000 in
set_option maxRecDepth 100000 in
theorem vboth_any (s m : SlV M) (w : World) (hs : MsAt w s) (hm : MsAt w m) :
    Calls Tryd.prog 24 #[.slice s.A s.xs.length s.c, .slice m.A m.xs.length m.c] w (VBRes w (bothV s.xs m.xs)) := by
  have HC1 := hid (fun W (hW : Below w.heap.size w W) => vcheck_any s W (hs.stays hW))
  have HC2 := hid (fun W (hW : Below w.heap.size w W) => vcheck_any m W (hm.stays hW))
  have HS := hid (fun W (hW : Below w.heap.size w W) => hs.stays hW)
  have HM := hid (fun W (hW : Below w.heap.size w W) => hm.stays hW)
  have hB0 : Blk (w.alloc (.cells #[.slice s.A s.xs.length s.c, .slice m.A m.xs.length m.c] 53)) w.heap.size 53 #[.slice s.A s.xs.length s.c, .slice m.A m.xs.length m.c] := Blk.new _ _ _
  generalize hR : bothV s.xs m.xs = R
  have HR := hid hR
  clear hR hs hm
  go_enter Tryd.func24, Tryd.ntmps24
  go_wp2_with fail
  obtain ⟨w1, hw1⟩ : ∃ w1 : World, w1 = w.alloc (.cells #[.slice s.A s.xs.length s.c, .slice m.A m.xs.length m.c] 53) := ⟨_, rfl⟩
  rw [← hw1] at hB0 ⊢
  have Hb1 := hid (show Below w.heap.size w w1 by rw [hw1]; (repeat (first | with_reducible exact Below.refl _ _ | with_reducible assumption | (with_reducible refine Below.drew ?_) | (with_reducible refine Below.manyDrew ?_ _) | ((with_reducible refine Below.alloc ?_ ?_ _); rotate_left; (focus (first | omega | (dsimp only; omega) | (simp; done) | (simp; omega)))) | ((with_reducible refine Below.setCell ?_ ?_ _); rotate_left; (focus (first | omega | (dsimp only; omega) | (simp; done) | (simp; omega)))) | ((with_reducible refine Below.step ?_ (by assumption) ?_); rotate_left; (focus (first | omega | (dsimp only; omega) | (simp; done) | (simp; omega)))))))
  have HB0 := hid hB0
  have hzb1 := Hb1.out.size
  clear hw1 hB0
  go_loopw [16] (fun i wr => ∃ k : Nat, k ≤ 2 ∧ i = .int .i64 k ∧ (1 ≤ k → chkV s.xs = 0) ∧ (2 ≤ k → chkV m.xs = 0) ∧ Below w1.heap.size w1 wr) (fun i _ => 2 - (intOf i).toNat)
  case atStart => exact ⟨0, by omega, rfl, (fun h => by omega), (fun h => by omega), Below.refl _ _⟩
  case round =>
    obtain ⟨k, hk, rfl, h1, h2, hb⟩ := hrel
    have hBr := HB0.out.belowS hb
    have c0 : wr.cell? ⟨w.heap.size, 0, none⟩ = some (.slice s.A s.xs.length s.c) := hBr.cell 0
    have c1 : wr.cell? ⟨w.heap.size, 1, none⟩ = some (.slice m.A m.xs.length m.c) := hBr.cell 1
    have H1 := hid h1
    have H2 := hid h2
    have Hbr := hid (Below.step Hb1.out hb hzb1)
    have Hb := hid hb
    have hzr := hb.size
    clear hBr h1 h2 hb
    rcases (show k = 0 ∨ k = 1 ∨ k = 2 by omega) with rfl | rfl | rfl
    · by_cases hc : chkV s.xs = 0
      · have HC := hid (HC1.out wr Hbr.out)
        rw [hc, errV_zero] at HC
        have Hc := hid hc
        clear hc
        go_wp2_with fail
        refine HC.out.mono ?_
        rintro e w2 ⟨rfl, hb2⟩
        have Hb2 := hid (Below.step Hb.out hb2 (by omega))
        clear hb2
        go_wp2_with fail
        go_roundw
        case rel => exact ⟨1, by omega, by go_num, fun _ => Hc.out, (fun h => by omega), Hb2.out⟩
        case measure => simp [intOf]
      · have HC := hid (HC1.out wr Hbr.out)
        have HRe := hid (show R = ([], chkV s.xs) from by rw [← HR.out, bothV, if_neg hc])
        have Hen := hid (errV_ne hc)
        generalize chkV s.xs = en at *
        clear hc
        go_wp2_with fail
        refine HC.out.mono ?_
        rw [Hen.out]
        rintro e w2 ⟨rfl, hb2⟩
        have Hb2 := hid (Below.step Hbr.out hb2 (by omega))
        clear hb2
        go_wp2_with fail
        refine bodyPost_ret (v := .tuple #[.slice none 0 0, .iface 86 (.int .i64 en)]) ?_ rfl ?_
        · simp [results, Tryd.results24, go_sem]
        · rw [HRe.out]
          exact ⟨_, by rw [Hen.out], Ow.nil _ _ _ _ _, Hb2.out⟩
    · have hc1 := H1.out (by omega)
      by_cases hc : chkV m.xs = 0
      · have HC := hid (HC2.out wr Hbr.out)
        rw [hc, errV_zero] at HC
        have Hc := hid hc
        have Hc1 := hid hc1
        clear hc hc1
        go_wp2_with fail
        refine HC.out.mono ?_
        rintro e w2 ⟨rfl, hb2⟩
        have Hb2 := hid (Below.step Hb.out hb2 (by omega))
        clear hb2
        go_wp2_with fail
        go_roundw
        case rel => exact ⟨2, by omega, by go_num, fun _ => Hc1.out, fun _ => Hc.out, Hb2.out⟩
        case measure => simp [intOf]
      · have HC := hid (HC2.out wr Hbr.out)
        have HRe := hid (show R = ([], chkV m.xs) from by rw [← HR.out, bothV, if_pos hc1, if_neg hc])
        have Hen := hid (errV_ne hc)
        generalize chkV m.xs = en at *
        clear hc hc1
        go_wp2_with fail
        refine HC.out.mono ?_
        rw [Hen.out]
        rintro e w2 ⟨rfl, hb2⟩
        have Hb2 := hid (Below.step Hbr.out hb2 (by omega))
        clear hb2
        go_wp2_with fail
        refine bodyPost_ret (v := .tuple #[.slice none 0 0, .iface 86 (.int .i64 en)]) ?_ rfl ?_
        · simp [results, Tryd.results24, go_sem]
        · rw [HRe.out]
          exact ⟨_, by rw [Hen.out], Ow.nil _ _ _ _ _, Hb2.out⟩
    · have hvs := H1.out (by omega)
      have hvm := H2.out (by omega)
      have HRe := hid (show R = (allV s.xs m.xs, 0) from by rw [← HR.out, bothV, if_pos hvs, if_pos hvm])
      obtain ⟨_, _, hl8⟩ := vval_facts hvs
      obtain ⟨_, _, hm8⟩ := vval_facts hvm
      have Hvs := hid hvs
      have Hvm := hid hvm
      clear hvs hvm
      go_wp2_with fail
      refine (vclone_any s _ (HS.out _ Hbr.out) (by omega)).mono ?_
      rintro e w2 ⟨v, rfl, hOw1, hb2⟩
      have HOw1 := hid (hOw1.mono (base' := w.heap.size) (by have := Hbr.out.size; omega))
      have Hb2 := hid (Below.step Hbr.out hb2 (by have := Hbr.out.size; omega))
      clear hOw1 hb2
      go_wp2_with fail
      go_loopw [9, 30] (fun u i wq => ∃ (k : Nat) (l' : List M), k ≤ m.xs.length ∧ i = .int .i64 k ∧ allV l' (m.xs.drop k) = allV s.xs m.xs ∧ chkV l' = 0 ∧ Ow M.cells 3 w.heap.size 52 wq u l' ∧ Below w.heap.size w wq) (fun _ i _ => m.xs.length - (intOf i).toNat)
      case atStart => exact ⟨0, s.xs, Nat.zero_le _, rfl, rfl, Hvs.out, HOw1.out, Hb2.out⟩
      case round =>
        obtain ⟨k, l', hk, rfl, hRk, hv', hOw, hbq⟩ := hrel
        obtain ⟨r, hr, hrx, hrA, _, _⟩ := MsAt.of_ow hOw (vval_good hv')
        have Hv' := hid hv'
        have Hrx := hid hrx
        have HrA := hid hrA
        have HOw := hid hOw
        have hzq := hbq.size
        have Hbq := hid hbq
        clear hrx hrA hOw HOw1 Hb2 hbq
        by_cases hlt : k < m.xs.length
        · obtain ⟨g, off, hA, hgl, hcells⟩ := (HM.out _ Hbq.out).row (by omega)
          obtain ⟨k0, k1, k2⟩ := hcells k hlt
          have hych := (vval_iff.1 Hvm.out).2 _ (getD_memD M.zero hlt)
          rw [drop_consD M.zero hlt, allV] at hRk
          rw [hr, hA]
          generalize m.xs.getD k M.zero = y at *
          obtain ⟨y0, y1, y2⟩ := y
          simp only at k0 k1 k2
          have HAd := hid (fun W (hW : Below wr.heap.size wr W) => show Calls Tryd.prog 43 #[.slice r.A r.xs.length r.c, .agg #[.int .i64 y0, .int .i64 y1, .int .i64 y2]] W (VRes W (addV l' ⟨y0, y1, y2⟩).1 (addV l' ⟨y0, y1, y2⟩).2) from by
            have := vadded_any r y0 y1 y2 W hych (HrA.out.stays hW) (by rw [Hrx.out]; exact Hv'.out)
            rw [Hrx.out] at this ⊢
            exact this)
          have Hkey := hid (addV_key Hv'.out hych).1
          have HRk := hid hRk
          clear hcells hA hych hv' hr hRk
          generalize addV l' ⟨y0, y1, y2⟩ = A at *
          obtain ⟨l2, ab⟩ := A
          go_wp2_with fail
          refine (HAd.out _ (by (repeat (first | with_reducible exact Below.refl _ _ | with_reducible assumption | (with_reducible refine Below.drew ?_) | (with_reducible refine Below.manyDrew ?_ _) | ((with_reducible refine Below.alloc ?_ ?_ _); rotate_left; (focus (first | omega | (dsimp only; omega) | (simp; done) | (simp; omega)))) | ((with_reducible refine Below.setCell ?_ ?_ _); rotate_left; (focus (first | omega | (dsimp only; omega) | (simp; done) | (simp; omega)))) | ((with_reducible refine Below.step ?_ (by assumption) ?_); rotate_left; (focus (first | omega | (dsimp only; omega) | (simp; done) | (simp; omega)))))))).mono ?_
          rintro e w3 ⟨v3, rfl, hOw3, hb3⟩
          have Hb3 := hid (Below.step (Hbq.out.alloc hzq _) hb3 (by simp; omega))
          have HOw3 := hid (hOw3.mono (base' := w.heap.size) (by simp; omega))
          clear hOw3 hb3
          go_wp2_with fail
          go_roundw
          case rel => exact ⟨k + 1, l2, by omega, by go_num, HRk.out, Hkey.out, HOw3.out, Hb3.out⟩
          case measure => simp [intOf]; omega
        · obtain rfl : k = m.xs.length := by omega
          rw [List.drop_length] at hRk
          have HRk := hid (show l' = allV s.xs m.xs from hRk)
          clear hRk hv' hr
          go_wp2_with fail
          go_ret2
          rw [HRe.out, ← HRk.out]
          exact ⟨_, rfl, HOw.out, Hbq.out⟩

/-! ### view.Answer -/
def answerR (l : List M) (n : Int) : List M × Int :=
  if chkV l = 0 then (if nodeB n = true then (if vhas n l = true then
    (if (l.getD (vplc n l) M.zero).state = 0 then (l, 0) else if (l.getD (vplc n l) M.zero).life = 100 then ([], 4) else (l.set (vplc n l) ⟨n, (l.getD (vplc n l) M.zero).life + 1, 0⟩, 0))
    else ([], 5)) else ([], 1)) else ([], chkV l)
theorem answer1_any (x0 x1 x2 n : Int) (nb : Nat) (w : World) (h : w.cell? ⟨nb, 0, none⟩ = some (.int .i64 n)) (hb : nb < w.heap.size) :
    Calls Tryd.prog 47 #[.agg #[.int .i64 x0, .int .i64 x1, .int .i64 x2], .pointer (some ⟨nb, 0, none⟩)] w fun e w' => e = .returned (.bool (x0 == n)) ∧ Below w.heap.size w w' := by
  go_enter Tryd.func47, Tryd.ntmps47
  go_wp2_with fail
  all_goals
    go_ret
    exact ⟨ret_b (by first | rfl | simp [*]), by (repeat (first | with_reducible exact Below.refl _ _ | with_reducible assumption | (with_reducible refine Below.drew ?_) | (with_reducible refine Below.manyDrew ?_ _) | ((with_reducible refine Below.alloc ?_ ?_ _); rotate_left; (focus (first | omega | (dsimp only; omega) | (simp; done) | (simp; omega)))) | ((with_reducible refine Below.setCell ?_ ?_ _); rotate_left; (focus (first | omega | (dsimp only; omega) | (simp; done) | (simp; omega)))) | ((with_reducible refine Below.step ?_ (by assumption) ?_); rotate_left; (focus (first | omega | (dsimp only; omega) | (simp; done) | (simp; omega))))))⟩
def idxV (l : List M) (n : Int) : Int := if vhas n l = true then (vplc n l : Int) else -1

set_option maxHeartbeats 2000000 in
theorem vindex_any (s : SlV M) (n : Int) (nb : Nat) (w : World) (hs : MsAt w s) (hS : VSorted s.xs) (hn : s.xs.length ≤ 6) (h : w.cell? ⟨nb, 0, none⟩ = some (.int .i64 n)) (hb : nb < w.heap.size) :
    Calls Tryd.prog 46 #[.slice s.A s.xs.length s.c, .func (.func 47) #[] #[.pointer (some ⟨nb, 0, none⟩)]] w fun e w' => e = .returned (.int .i64 (idxV s.xs n)) ∧ Below w.heap.size w w' := by
  have H1 := hid (fun (x0 x1 x2 : Int) W (hW : Below w.heap.size w W) => answer1_any x0 x1 x2 n nb W ((hW.cell (p := ⟨nb, 0, none⟩) hb).trans h) (Nat.lt_of_lt_of_le hb hW.size))
  generalize hr : idxV s.xs n = r
  have Hr := hid hr
  have HS := hid hS
  clear hr hS h
  go_enter Tryd.func46, Tryd.ntmps46
  go_wp2_with fail
  go_loopw [8] (fun i wr => ∃ j : Nat, j ≤ s.xs.length ∧ i = .int .i64 j ∧ (∀ t, t < j → (s.xs.getD t M.zero).node ≠ n) ∧ Below w.heap.size w wr) (fun i _ => s.xs.length - (intOf i).toNat)
  case atStart => exact ⟨0, Nat.zero_le _, rfl, by omega, Below.refl _ _⟩
  case round =>
    obtain ⟨j, hj, rfl, hne, hbr⟩ := hrel
    have hz0 := hbr.size
    have Hne := hid hne
    clear hne
    by_cases hlt : j < s.xs.length
    · obtain ⟨g, off, hA, hg, hcells⟩ := hs.row (by omega)
      obtain ⟨k0, k1, k2⟩ := (hcells j hlt).stays hbr hg
      have hx := HS.out
      obtain ⟨y, hy⟩ : ∃ y, s.xs.getD j M.zero = y := ⟨_, rfl⟩
      rw [hy] at k0 k1 k2
      have Hy := hid hy
      clear hy hx
      obtain ⟨y0, y1, y2⟩ := y
      simp only at k0 k1 k2
      have HC := hid (H1.out y0 y1 y2 wr hbr)
      rw [hA]
      clear hA hcells
      by_cases hyn : y0 = n
      · rw [show (y0 == n) = true by simpa using hyn] at HC
        have hrj : r = (j : Int) := by
          have hp : vplc n s.xs = j := vplc_eq s.xs j (by omega) (fun t ht => by
            have := HS.out t j ht hlt
            rw [Hy.out] at this
            simp only at this
            omega) (fun _ => by rw [Hy.out]; simp only; omega)
          have hv : vhas n s.xs = true := by
            unfold vhas
            rw [hp, Hy.out]
            simp [hlt, hyn]
          rw [← Hr.out, idxV, if_pos hv, hp]
        have Hrj := hid hrj
        clear hyn hrj
        go_wp2_with fail
        refine HC.out.mono ?_
        rintro e w1 ⟨rfl, hb1⟩; obtain ⟨hc1, hf1⟩ := bcell hb1; have hz1 := hb1.size; (try simp only [World.size_alloc] at hz1); (try simp only [World.size_setCell] at hz1)
        go_wp2_with fail
        go_ret
        exact ⟨by rw [Hrj.out]; rfl, by (repeat (first | with_reducible exact Below.refl _ _ | with_reducible assumption | (with_reducible refine Below.drew ?_) | (with_reducible refine Below.manyDrew ?_ _) | ((with_reducible refine Below.alloc ?_ ?_ _); rotate_left; (focus (first | omega | (dsimp only; omega) | (simp; done) | (simp; omega)))) | ((with_reducible refine Below.setCell ?_ ?_ _); rotate_left; (focus (first | omega | (dsimp only; omega) | (simp; done) | (simp; omega)))) | ((with_reducible refine Below.step ?_ (by assumption) ?_); rotate_left; (focus (first | omega | (dsimp only; omega) | (simp; done) | (simp; omega))))))⟩
      · rw [show (y0 == n) = false by simpa using hyn] at HC
        have Hyn := hid hyn
        clear hyn
        go_wp2_with fail
        refine HC.out.mono ?_
        rintro e w1 ⟨rfl, hb1⟩; obtain ⟨hc1, hf1⟩ := bcell hb1; have hz1 := hb1.size; (try simp only [World.size_alloc] at hz1); (try simp only [World.size_setCell] at hz1)
        go_wp2_with fail
        go_roundw
        case rel =>
          refine ⟨j + 1, by omega, by go_num, fun t ht => ?_, by (repeat (first | with_reducible exact Below.refl _ _ | with_reducible assumption | (with_reducible refine Below.drew ?_) | (with_reducible refine Below.manyDrew ?_ _) | ((with_reducible refine Below.alloc ?_ ?_ _); rotate_left; (focus (first | omega | (dsimp only; omega) | (simp; done) | (simp; omega)))) | ((with_reducible refine Below.setCell ?_ ?_ _); rotate_left; (focus (first | omega | (dsimp only; omega) | (simp; done) | (simp; omega)))) | ((with_reducible refine Below.step ?_ (by assumption) ?_); rotate_left; (focus (first | omega | (dsimp only; omega) | (simp; done) | (simp; omega))))))⟩
          by_cases htj : t = j
          · rw [htj, Hy.out]; exact Hyn.out
          · exact Hne.out t (by omega)
        case measure => simp [intOf]; omega
    · obtain rfl : j = s.xs.length := by omega
      have hv : vhas n s.xs = false := by
        rcases hh : vhas n s.xs with _ | _
        · rfl
        · unfold vhas at hh
          simp at hh
          have := Hne.out _ hh.1
          rw [getD_get M.zero hh.1] at this
          exact absurd (by have := hh.2; rw [← List.getD_eq_getElem?_getD, getD_get M.zero hh.1] at this; exact this) this
      have hrj : r = -1 := by rw [← Hr.out, idxV, if_neg (by rw [hv]; decide)]
      have Hrj := hid hrj
      clear hv hrj
      go_wp2_with fail
      go_ret
      exact ⟨by rw [Hrj.out]; rfl, hbr⟩
end Go.Proofs.YtgamocljdbffpaaDoor
