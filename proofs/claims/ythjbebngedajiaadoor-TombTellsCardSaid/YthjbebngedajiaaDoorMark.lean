/-
  CONTRACTS of tomb.Mark, of tomb.Sweep with what it refuses, of the reference mereref1.Caches. CONDITIONS: none.
-/
import Derived.Test.YthjbebngedajiaaDoorSafeA
import Derived.Test.YthjbebngedajiaaDoorRCache
namespace Go.Proofs.YthjbebngedajiaaDoor
open Go.RowKit
open Go.ChangeShapes Go.WideShapes Go.ChangeAt

def markG (k : Int) : Int → List (SlV E) → Int
  | o, [] => o
  | o, c :: r => if hasK k c.xs = true then markG k (min o (c.xs.getD (plc k c.xs) E.zero).asof) r else 0
def markR (l : List (SlV E)) (k : Int) : Int × Int := if chkTK l k = 0 then (markG k 1000 l, 0) else (0, chkTK l k)

set_option maxHeartbeats 2000000 in
theorem mark_any (s : SlV (SlV E)) (k : Int) (w : World) (hs : CachesAt w s) :
    Calls Tryd.prog 22 #[.slice s.A s.xs.length s.c, .int .i64 k] w fun e w' => e = .returned (.tuple #[.int .i64 (markR s.xs k).1, errV (markR s.xs k).2]) ∧ Below w.heap.size w w' := by
  have HT := hid (fun W (hW : Below w.heap.size w W) => tkey_any s k W (hs.stays hW))
  by_cases hc : chkTK s.xs k = 0
  · rw [markR, if_pos hc]
    obtain ⟨⟨h1, h6⟩, hch, hk⟩ := chkTK_ok hc
    rw [hc, errV_zero] at HT
    rw [errV_zero]
    have Hk := hid hk
    have Hch := hid hch
    generalize hR : markG k 1000 s.xs = R
    have HR := hid hR
    clear hc hk hch hR
    go_enter Tryd.func22, Tryd.ntmps22
    go_wp2_with fail
    refine (HT.out _ (by (repeat (first | with_reducible exact Below.refl _ _ | with_reducible assumption | (with_reducible refine Below.drew ?_) | (with_reducible refine Below.manyDrew ?_ _) | ((with_reducible refine Below.alloc ?_ ?_ _); rotate_left; (focus (first | omega | (dsimp only; omega) | (simp; done) | (simp; omega)))) | ((with_reducible refine Below.setCell ?_ ?_ _); rotate_left; (focus (first | omega | (dsimp only; omega) | (simp; done) | (simp; omega)))) | ((with_reducible refine Below.step ?_ (by assumption) ?_); rotate_left; (focus (first | omega | (dsimp only; omega) | (simp; done) | (simp; omega)))))))).mono ?_
    rintro e w1 ⟨rfl, hb1⟩
    go_wp2_with fail
    go_loopw [7, 20] (fun o i wr => ∃ (j : Nat) (n : Int), j ≤ s.xs.length ∧ o = .int .i64 n ∧ i = .int .i64 j ∧ markG k n (s.xs.drop j) = R ∧ Below w.heap.size w wr) (fun _ i _ => s.xs.length - (intOf i).toNat)
    case atStart => exact ⟨0, 1000, Nat.zero_le _, rfl, rfl, HR.out, hb1⟩
    case round =>
      obtain ⟨j, n, hj, rfl, rfl, hkr, hbr⟩ := hrel
      have hz0 := hbr.size
      by_cases hlt : j < s.xs.length
      · obtain ⟨b, off, hA, hb, hcells⟩ := hs.row (by omega)
        have hcell := hcells j hlt
        have hin := (hs.each j hlt).stays hbr
        rw [← hbr.cell (p := ⟨b, off + j, none⟩) hb] at hcell
        have hd : s.xs.drop j = s.xs[j] :: s.xs.drop (j + 1) := List.drop_eq_getElem_cons hlt
        rw [hd, markG] at hkr
        obtain ⟨hn, _, hS, hK⟩ := chkC_ok (Hch.out _ (List.getElem_mem hlt))
        generalize s.xs[j] = c at *
        have HP := hid (fun W (hW : Below wr.heap.size wr W) => place_any k c W (hin.stays hW) hS hK (keyB_true.1 Hk.out) hn)
        rcases (show hasK k c.xs = false ∨ hasK k c.xs = true by cases hasK k c.xs <;> simp) with hh | hh
        · rw [hh] at HP
          rw [if_neg (by simp [hh])] at hkr
          have Hkr := hid hkr
          rw [hA]
          clear hA hcells hd hkr hS hK hh
          go_wp2_with fail
          refine (HP.out _ (Below.refl _ _)).mono ?_
          rintro e w2 ⟨rfl, hb2⟩
          go_wp2_with fail
          refine bodyPost_ret (v := .tuple #[.int .i64 0, .nilIface]) ?_ rfl ⟨by rw [← Hkr.out], by (repeat (first | with_reducible exact Below.refl _ _ | with_reducible assumption | (with_reducible refine Below.drew ?_) | (with_reducible refine Below.manyDrew ?_ _) | ((with_reducible refine Below.alloc ?_ ?_ _); rotate_left; (focus (first | omega | (dsimp only; omega) | (simp; done) | (simp; omega)))) | ((with_reducible refine Below.setCell ?_ ?_ _); rotate_left; (focus (first | omega | (dsimp only; omega) | (simp; done) | (simp; omega)))) | ((with_reducible refine Below.step ?_ (by assumption) ?_); rotate_left; (focus (first | omega | (dsimp only; omega) | (simp; done) | (simp; omega))))))⟩
          simp [results, Tryd.results22, go_sem]
        · rw [hh] at HP
          rw [if_pos hh] at hkr
          have hp : plc k c.xs < c.xs.length := by
            unfold hasK at hh
            simp at hh
            exact hh.1
          obtain ⟨g, off2, hA2, hg, hcells2⟩ := hin.get (by omega)
          have hE := (hcells2 _ hp).c2
          have hcl := hin.len
          unfold maxLen at hcl
          generalize c.xs.getD (plc k c.xs) E.zero = x at *
          have Hkr := hid hkr
          have HA2 := hid hA2
          rw [hA]
          clear hA hcells hd hkr hS hK hh hcells2 hA2
          generalize plc k c.xs = q at *
          go_wp2_with fail
          refine (HP.out _ (Below.refl _ _)).mono ?_
          rintro e w2 ⟨rfl, hb2⟩
          have hE2 := (hb2.cell (p := ⟨g, _, none⟩) hg).trans hE
          have hg2 : g < w2.heap.size := Nat.lt_of_lt_of_le hg hb2.size
          rw [HA2.out]
          rw [HA2.out] at hcell
          clear hE
          go_wp2_with fail
          all_goals
            go_roundw
            case rel =>
              refine ⟨j + 1, _, by omega, rfl, by go_num, ?_, by (repeat (first | with_reducible exact Below.refl _ _ | with_reducible assumption | (with_reducible refine Below.drew ?_) | (with_reducible refine Below.manyDrew ?_ _) | ((with_reducible refine Below.alloc ?_ ?_ _); rotate_left; (focus (first | omega | (dsimp only; omega) | (simp; done) | (simp; omega)))) | ((with_reducible refine Below.setCell ?_ ?_ _); rotate_left; (focus (first | omega | (dsimp only; omega) | (simp; done) | (simp; omega)))) | ((with_reducible refine Below.step ?_ (by assumption) ?_); rotate_left; (focus (first | omega | (dsimp only; omega) | (simp; done) | (simp; omega))))))⟩
              refine Eq.trans ?_ Hkr.out
              congr 1
              omega
            case measure => simp [intOf]; omega
      · obtain rfl : j = s.xs.length := by omega
        rw [List.drop_length, markG] at hkr
        have Hkr := hid hkr
        clear hkr
        go_wp2_with fail
        refine bodyPost_ret (v := .tuple #[.int .i64 n, .nilIface]) ?_ rfl ⟨by rw [← Hkr.out], by (repeat (first | with_reducible exact Below.refl _ _ | with_reducible assumption | (with_reducible refine Below.drew ?_) | (with_reducible refine Below.manyDrew ?_ _) | ((with_reducible refine Below.alloc ?_ ?_ _); rotate_left; (focus (first | omega | (dsimp only; omega) | (simp; done) | (simp; omega)))) | ((with_reducible refine Below.setCell ?_ ?_ _); rotate_left; (focus (first | omega | (dsimp only; omega) | (simp; done) | (simp; omega)))) | ((with_reducible refine Below.step ?_ (by assumption) ?_); rotate_left; (focus (first | omega | (dsimp only; omega) | (simp; done) | (simp; omega))))))⟩
        simp [results, Tryd.results22, go_sem]
  · rw [markR, if_neg hc]
    have He := hid (errV_ne hc)
    generalize chkTK s.xs k = en at *
    clear hc
    go_enter Tryd.func22, Tryd.ntmps22
    go_wp2_with fail
    refine (HT.out _ (by (repeat (first | with_reducible exact Below.refl _ _ | with_reducible assumption | (with_reducible refine Below.drew ?_) | (with_reducible refine Below.manyDrew ?_ _) | ((with_reducible refine Below.alloc ?_ ?_ _); rotate_left; (focus (first | omega | (dsimp only; omega) | (simp; done) | (simp; omega)))) | ((with_reducible refine Below.setCell ?_ ?_ _); rotate_left; (focus (first | omega | (dsimp only; omega) | (simp; done) | (simp; omega)))) | ((with_reducible refine Below.step ?_ (by assumption) ?_); rotate_left; (focus (first | omega | (dsimp only; omega) | (simp; done) | (simp; omega)))))))).mono ?_
    rw [He.out]
    rintro e w1 ⟨rfl, hb1⟩
    go_wp2_with fail
    refine bodyPost_ret (v := .tuple #[.int .i64 0, .iface 87 (.int .i64 en)]) ?_ rfl ⟨by rw [He.out], by (repeat (first | with_reducible exact Below.refl _ _ | with_reducible assumption | (with_reducible refine Below.drew ?_) | (with_reducible refine Below.manyDrew ?_ _) | ((with_reducible refine Below.alloc ?_ ?_ _); rotate_left; (focus (first | omega | (dsimp only; omega) | (simp; done) | (simp; omega)))) | ((with_reducible refine Below.setCell ?_ ?_ _); rotate_left; (focus (first | omega | (dsimp only; omega) | (simp; done) | (simp; omega)))) | ((with_reducible refine Below.step ?_ (by assumption) ?_); rotate_left; (focus (first | omega | (dsimp only; omega) | (simp; done) | (simp; omega))))))⟩
    simp [results, Tryd.results22, go_sem]

/-! ### mereref1.Caches -/
set_option maxHeartbeats 1000000 in
theorem rcaches_any (s : SlV (SlV E)) (w : World) (hs : CachesAt w s) :
    Calls Tryd.prog 21 #[.slice s.A s.xs.length s.c] w fun e w' => e = .returned (.int .i64 (chkT s.xs)) ∧ Below w.heap.size w w' := by
  have hlen := hs.len
  unfold maxLen at hlen
  obtain ⟨r, hr⟩ : ∃ r, chkT s.xs = r := ⟨_, rfl⟩
  rw [hr]
  by_cases h0 : s.xs.length = 0
  · have hr0 : (5 : Int) = r := by rw [← hr, chkT, if_pos h0]
    subst hr0
    rw [h0]
    clear hr h0 hlen
    go_enter Tryd.func21, Tryd.ntmps21
    go_wp2_with fail
    go_ret
    exact ⟨rfl, by (repeat (first | with_reducible exact Below.refl _ _ | with_reducible assumption | (with_reducible refine Below.drew ?_) | (with_reducible refine Below.manyDrew ?_ _) | ((with_reducible refine Below.alloc ?_ ?_ _); rotate_left; (focus (first | omega | (dsimp only; omega) | (simp; done) | (simp; omega)))) | ((with_reducible refine Below.setCell ?_ ?_ _); rotate_left; (focus (first | omega | (dsimp only; omega) | (simp; done) | (simp; omega)))) | ((with_reducible refine Below.step ?_ (by assumption) ?_); rotate_left; (focus (first | omega | (dsimp only; omega) | (simp; done) | (simp; omega))))))⟩
  · have h0' : ((s.xs.length : Int) == 0) = false := by rw [beq_eq_false_iff_ne]; omega
    by_cases h6 : 6 < s.xs.length
    · have hr0 : (4 : Int) = r := by rw [← hr, chkT, if_neg h0, if_pos h6]
      subst hr0
      have h6' : (6 : Int) < (s.xs.length : Int) := by omega
      have H0 : Hid (¬ s.xs.length = 0) := h0
      clear hr h0 h6
      go_enter Tryd.func21, Tryd.ntmps21
      go_wp2_with fail
      go_ret
      exact ⟨rfl, by (repeat (first | with_reducible exact Below.refl _ _ | with_reducible assumption | (with_reducible refine Below.drew ?_) | (with_reducible refine Below.manyDrew ?_ _) | ((with_reducible refine Below.alloc ?_ ?_ _); rotate_left; (focus (first | omega | (dsimp only; omega) | (simp; done) | (simp; omega)))) | ((with_reducible refine Below.setCell ?_ ?_ _); rotate_left; (focus (first | omega | (dsimp only; omega) | (simp; done) | (simp; omega)))) | ((with_reducible refine Below.step ?_ (by assumption) ?_); rotate_left; (focus (first | omega | (dsimp only; omega) | (simp; done) | (simp; omega))))))⟩
    · have h6' : ¬ (6 : Int) < (s.xs.length : Int) := by omega
      rw [chkT, if_neg h0, if_neg h6] at hr
      have Hr := hid hr
      have H6 : Hid (¬ 6 < s.xs.length) := h6
      have H0 : Hid (¬ s.xs.length = 0) := h0
      clear hr h0 h6
      go_enter Tryd.func21, Tryd.ntmps21
      go_wp2_with fail
      go_loopw [3] (fun i wr => ∃ k : Nat, k ≤ s.xs.length ∧ i = .int .i64 k ∧ chkTs (s.xs.drop k) = r ∧ Below w.heap.size w wr) (fun i _ => s.xs.length - (intOf i).toNat)
      case atStart => exact ⟨0, Nat.zero_le _, rfl, Hr.out, Below.refl _ _⟩
      case round =>
        obtain ⟨k, hk, rfl, hkr, hbr⟩ := hrel
        have hz0 := hbr.size
        by_cases hlt : k < s.xs.length
        · obtain ⟨b, off, hA, hb, hcells⟩ := hs.row (by omega)
          have hcell := hcells k hlt
          have hin := (hs.each k hlt).stays hbr
          rw [← hbr.cell (p := ⟨b, off + k, none⟩) hb] at hcell
          have hd : s.xs.drop k = s.xs[k] :: s.xs.drop (k + 1) := List.drop_eq_getElem_cons hlt
          rw [hd, chkTs] at hkr
          generalize s.xs[k] = c at *
          have Hkr := hid hkr
          rw [hA]
          clear hA hcells hd hkr
          go_wp2_with fail
          refine (rcache_any c _ hin).mono ?_; rintro e w1 ⟨rfl, hb1⟩; obtain ⟨hc1, hf1⟩ := bcell hb1; have hz1 := hb1.size; (try simp only [World.size_alloc] at hz1); (try simp only [World.size_setCell] at hz1)
          by_cases hc : chkC c.xs = 0
          · have Hkr2 := hid ((if_pos hc).symm.trans Hkr.out)
            have hcb : (chkC c.xs == 0) = true := by rw [hc]; rfl
            clear hc Hkr
            go_wp2_with fail
            go_roundw
            case rel => exact ⟨k + 1, by omega, by go_num, Hkr2.out, by (repeat (first | with_reducible exact Below.refl _ _ | with_reducible assumption | (with_reducible refine Below.drew ?_) | (with_reducible refine Below.manyDrew ?_ _) | ((with_reducible refine Below.alloc ?_ ?_ _); rotate_left; (focus (first | omega | (dsimp only; omega) | (simp; done) | (simp; omega)))) | ((with_reducible refine Below.setCell ?_ ?_ _); rotate_left; (focus (first | omega | (dsimp only; omega) | (simp; done) | (simp; omega)))) | ((with_reducible refine Below.step ?_ (by assumption) ?_); rotate_left; (focus (first | omega | (dsimp only; omega) | (simp; done) | (simp; omega))))))⟩
            case measure => simp [intOf]; omega
          · have hcr : chkC c.xs = r := by rw [← Hkr.out, if_neg hc]
            have hcb : (chkC c.xs == 0) = false := by rw [beq_eq_false_iff_ne]; exact hc
            subst hcr
            clear Hkr Hr hc
            go_wp2_with fail
            go_ret
            exact ⟨rfl, by (repeat (first | with_reducible exact Below.refl _ _ | with_reducible assumption | (with_reducible refine Below.drew ?_) | (with_reducible refine Below.manyDrew ?_ _) | ((with_reducible refine Below.alloc ?_ ?_ _); rotate_left; (focus (first | omega | (dsimp only; omega) | (simp; done) | (simp; omega)))) | ((with_reducible refine Below.setCell ?_ ?_ _); rotate_left; (focus (first | omega | (dsimp only; omega) | (simp; done) | (simp; omega)))) | ((with_reducible refine Below.step ?_ (by assumption) ?_); rotate_left; (focus (first | omega | (dsimp only; omega) | (simp; done) | (simp; omega))))))⟩
        · obtain rfl : k = s.xs.length := by omega
          have hr0 : (0 : Int) = r := by
            rw [List.drop_length] at hkr
            exact hkr
          subst hr0
          clear hkr
          go_wp2_with fail
          go_ret
          exact ⟨rfl, by (repeat (first | with_reducible exact Below.refl _ _ | with_reducible assumption | (with_reducible refine Below.drew ?_) | (with_reducible refine Below.manyDrew ?_ _) | ((with_reducible refine Below.alloc ?_ ?_ _); rotate_left; (focus (first | omega | (dsimp only; omega) | (simp; done) | (simp; omega)))) | ((with_reducible refine Below.setCell ?_ ?_ _); rotate_left; (focus (first | omega | (dsimp only; omega) | (simp; done) | (simp; omega)))) | ((with_reducible refine Below.step ?_ (by assumption) ?_); rotate_left; (focus (first | omega | (dsimp only; omega) | (simp; done) | (simp; omega))))))⟩

/-! ### tomb.Sweep, whatever it is asked -/
def sweepR (l : List E) (m : Int) : (List E × List Int) × Int := if chkC l = 0 then (if seqB m = true then ((leftL m l, goneL m l), 0) else (([], []), 1)) else (([], []), chkC l)
def SwRes (w : World) (r : (List E × List Int) × Int) (e : Ending) (w' : World) : Prop :=
  ∃ lv gv, e = .returned (.tuple #[lv, gv, errV r.2]) ∧ Ow E.cells 5 w.heap.size 26 w' lv r.1.1 ∧ Ow cellI 1 w.heap.size 3 w' gv r.1.2 ∧ Below w.heap.size w w'
theorem map_flat (l : List Int) : l.map (Value.int .i64) = l.flatMap cellI := by
  induction l with
  | nil => rfl
  | cons a r ih => rw [List.map_cons, List.flatMap_cons, ih]; rfl

set_option maxHeartbeats 1000000 in
theorem sweep_any (s : SlV E) (m : Int) (w : World) (hs : EntriesAt w s) :
    Calls Tryd.prog 24 #[.slice s.A s.xs.length s.c, .int .i64 m] w (SwRes w (sweepR s.xs m)) := by
  by_cases hc : chkC s.xs = 0
  · rcases (show seqB m = false ∨ seqB m = true by cases seqB m <;> simp) with hm | hm
    · rw [sweepR, if_pos hc, if_neg (by rw [hm]; decide)]
      have HC := hid (fun W (hW : Below w.heap.size w W) => ccheck_any s W (hs.stays hW))
      rw [hc, errV_zero] at HC
      have Hm := hid hm
      clear hc hm hs
      go_enter Tryd.func24, Tryd.ntmps24
      go_wp2_with fail
      refine (HC.out _ (by (repeat (first | with_reducible exact Below.refl _ _ | with_reducible assumption | (with_reducible refine Below.drew ?_) | (with_reducible refine Below.manyDrew ?_ _) | ((with_reducible refine Below.alloc ?_ ?_ _); rotate_left; (focus (first | omega | (dsimp only; omega) | (simp; done) | (simp; omega)))) | ((with_reducible refine Below.setCell ?_ ?_ _); rotate_left; (focus (first | omega | (dsimp only; omega) | (simp; done) | (simp; omega)))) | ((with_reducible refine Below.step ?_ (by assumption) ?_); rotate_left; (focus (first | omega | (dsimp only; omega) | (simp; done) | (simp; omega)))))))).mono ?_
      rintro e w1 ⟨rfl, hb1⟩
      go_wp2_with ((go_at_call 49; refine (seq_any _ _).mono ?_; rintro e w' ⟨rfl, rfl⟩); rw [Hm.out])
      go_ret3
      exact ⟨_, _, rfl, Ow.nil _ _ _ _ _, Ow.nil _ _ _ _ _, by (repeat (first | with_reducible exact Below.refl _ _ | with_reducible assumption | (with_reducible refine Below.drew ?_) | (with_reducible refine Below.manyDrew ?_ _) | ((with_reducible refine Below.alloc ?_ ?_ _); rotate_left; (focus (first | omega | (dsimp only; omega) | (simp; done) | (simp; omega)))) | ((with_reducible refine Below.setCell ?_ ?_ _); rotate_left; (focus (first | omega | (dsimp only; omega) | (simp; done) | (simp; omega)))) | ((with_reducible refine Below.step ?_ (by assumption) ?_); rotate_left; (focus (first | omega | (dsimp only; omega) | (simp; done) | (simp; omega))))))⟩
    · rw [sweepR, if_pos hc, if_pos hm]
      refine (sweep_walk s m w hs hc hm).mono ?_
      rintro e w1 ⟨lv, gv, rfl, h1, h2, hb⟩
      refine ⟨lv, gv, rfl, Ow.of_own (fun e => rfl) h1, Ow.of_own (fun e => rfl) ?_, hb⟩
      rw [← map_flat]
      exact h2
  · rw [sweepR, if_neg hc]
    have HC := hid (fun W (hW : Below w.heap.size w W) => ccheck_any s W (hs.stays hW))
    have He := hid (errV_ne hc)
    generalize chkC s.xs = en at *
    clear hc hs
    go_enter Tryd.func24, Tryd.ntmps24
    go_wp2_with fail
    refine (HC.out _ (by (repeat (first | with_reducible exact Below.refl _ _ | with_reducible assumption | (with_reducible refine Below.drew ?_) | (with_reducible refine Below.manyDrew ?_ _) | ((with_reducible refine Below.alloc ?_ ?_ _); rotate_left; (focus (first | omega | (dsimp only; omega) | (simp; done) | (simp; omega)))) | ((with_reducible refine Below.setCell ?_ ?_ _); rotate_left; (focus (first | omega | (dsimp only; omega) | (simp; done) | (simp; omega)))) | ((with_reducible refine Below.step ?_ (by assumption) ?_); rotate_left; (focus (first | omega | (dsimp only; omega) | (simp; done) | (simp; omega)))))))).mono ?_
    rw [He.out]
    rintro e w1 ⟨rfl, hb1⟩
    go_wp2_with fail
    refine bodyPost_ret (v := .tuple #[.slice none 0 0, .slice none 0 0, .iface 87 (.int .i64 en)]) ?_ rfl ⟨_, _, by rw [He.out], Ow.nil _ _ _ _ _, Ow.nil _ _ _ _ _, by (repeat (first | with_reducible exact Below.refl _ _ | with_reducible assumption | (with_reducible refine Below.drew ?_) | (with_reducible refine Below.manyDrew ?_ _) | ((with_reducible refine Below.alloc ?_ ?_ _); rotate_left; (focus (first | omega | (dsimp only; omega) | (simp; done) | (simp; omega)))) | ((with_reducible refine Below.setCell ?_ ?_ _); rotate_left; (focus (first | omega | (dsimp only; omega) | (simp; done) | (simp; omega)))) | ((with_reducible refine Below.step ?_ (by assumption) ?_); rotate_left; (focus (first | omega | (dsimp only; omega) | (simp; done) | (simp; omega))))))⟩
    simp [results, Tryd.results24, go_sem]
end Go.Proofs.YthjbebngedajiaaDoor
