/-
  CONTRACTS of the references mereref1.Cache, mereref1.Get: plain functions. CONDITIONS: none.
-/
import Derived.Test.YtdocdmpfokdjkaaDoorCLaw
import Derived.Test.YtdocdmpfokdjkaaDoorCCheck
import Derived.Test.YtdocdmpfokdjkaaDoorREntry
namespace Go.Proofs.YtdocdmpfokdjkaaDoor
open Go.RowKit
open Go.ChangeShapes Go.WideShapes Go.ChangeAt

set_option maxHeartbeats 2000000 in
theorem rcache_any (s : SlV E) (w : World) (hs : EntriesAt w s) :
    Calls Tryd.prog 40 #[.slice s.A s.xs.length s.c] w fun e w' => e = .returned (.int .i64 (chkC s.xs)) ∧ Below w.heap.size w w' := by
  have hlen := hs.len
  unfold maxLen at hlen
  by_cases h8 : 8 < s.xs.length
  · have h8' : (8 : Int) < (s.xs.length : Int) := by omega
    rw [chkC, if_pos h8]
    go_enter Tryd.func40, Tryd.ntmps40
    go_wp2_with fail
    go_ret
    exact ⟨rfl, by (repeat (first | with_reducible exact Below.refl _ _ | with_reducible assumption | (with_reducible refine Below.drew ?_) | (with_reducible refine Below.manyDrew ?_ _) | ((with_reducible refine Below.alloc ?_ ?_ _); rotate_left; (focus (first | omega | (dsimp only; omega) | (simp; done) | (simp; omega)))) | ((with_reducible refine Below.setCell ?_ ?_ _); rotate_left; (focus (first | omega | (dsimp only; omega) | (simp; done) | (simp; omega)))) | ((with_reducible refine Below.step ?_ (by assumption) ?_); rotate_left; (focus (first | omega | (dsimp only; omega) | (simp; done) | (simp; omega))))))⟩
  · have h8' : ¬ (8 : Int) < (s.xs.length : Int) := by omega
    generalize hr : chkC s.xs = r
    rw [chkC, if_neg h8] at hr
    have Hr := hid hr
    clear hr
    go_enter Tryd.func40, Tryd.ntmps40
    go_wp2_with fail
    go_loopw [3] (fun i wr => ∃ k : Nat, k ≤ s.xs.length ∧ i = .int .i64 k ∧ chkCs (if k = 0 then none else some (s.xs.getD (k - 1) E.zero).key) (s.xs.drop k) = r ∧ Below w.heap.size w wr) (fun i _ => s.xs.length - (intOf i).toNat)
    case atStart => exact ⟨0, Nat.zero_le _, rfl, Hr.out, Below.refl _ _⟩
    case round =>
      obtain ⟨k, hk, rfl, hkr, hbr⟩ := hrel
      have hz0 := hbr.size
      by_cases hlt : k < s.xs.length
      · obtain ⟨g, off, hA, hg, hcells⟩ := hs.get (by omega)
        obtain ⟨k0, k1, k2, k3, k4⟩ := (hcells k hlt).stays hbr hg
        have hgr : g < wr.heap.size := by omega
        have hd : s.xs.drop k = s.xs.getD k E.zero :: s.xs.drop (k + 1) := by
          rw [List.drop_eq_getElem_cons hlt, List.getD, List.getElem?_eq_getElem hlt, Option.getD_some]
        rw [hd, chkCs] at hkr
        have hm := hs.each _ (getD_mem hlt)
        by_cases hk0 : k = 0
        · subst hk0
          rw [if_pos rfl] at hkr
          rw [Nat.zero_mul, Nat.add_zero] at k0 k1 k2 k3 k4
          rw [Nat.zero_add] at hd hkr
          obtain ⟨x, hx⟩ : ∃ x, s.xs.getD 0 E.zero = x := ⟨_, rfl⟩
          rw [hx] at hkr k0 k1 k2 k3 k4 hm
          have Hx := hid hx
          clear hx
          obtain ⟨xk, xv, xa, xg, xt⟩ := x
          simp only at k0 k1 k2 k3 k4
          have Hkr := hid hkr
          rw [hA]
          clear hA hkr hcells hd
          go_wp2_with fail
          refine (rentry_any xk xv xa xg xt _ hm.2.2.2).mono ?_; rintro e w1 ⟨rfl, hb1⟩; obtain ⟨hc1, hf1⟩ := bcell hb1; have hz1 := hb1.size; (try simp only [World.size_alloc] at hz1); (try simp only [World.size_setCell] at hz1)
          by_cases hc : chk ⟨xk, xv, xa, xg, xt⟩ = 0
          · rw [hc]
            have Hkr2 := hid ((if_pos hc).symm.trans Hkr.out)
            clear Hkr
            go_wp2_with fail
            go_quiet (fail)
            go_wp2_with fail
            go_roundw
            case rel => exact ⟨1, by omega, by go_num, by show chkCs (some (s.xs.getD 0 E.zero).key) _ = _; rw [Hx.out]; exact Hkr2.out, by (repeat (first | with_reducible exact Below.refl _ _ | with_reducible assumption | (with_reducible refine Below.drew ?_) | (with_reducible refine Below.manyDrew ?_ _) | ((with_reducible refine Below.alloc ?_ ?_ _); rotate_left; (focus (first | omega | (dsimp only; omega) | (simp; done) | (simp; omega)))) | ((with_reducible refine Below.setCell ?_ ?_ _); rotate_left; (focus (first | omega | (dsimp only; omega) | (simp; done) | (simp; omega)))) | ((with_reducible refine Below.step ?_ (by assumption) ?_); rotate_left; (focus (first | omega | (dsimp only; omega) | (simp; done) | (simp; omega))))))⟩
            case measure => simp [intOf]; omega
          · have hcr : chk ⟨xk, xv, xa, xg, xt⟩ = r := by rw [← Hkr.out, if_neg hc]
            subst hcr
            clear Hkr
            go_wp2_with fail
            go_ret
            exact ⟨rfl, by (repeat (first | with_reducible exact Below.refl _ _ | with_reducible assumption | (with_reducible refine Below.drew ?_) | (with_reducible refine Below.manyDrew ?_ _) | ((with_reducible refine Below.alloc ?_ ?_ _); rotate_left; (focus (first | omega | (dsimp only; omega) | (simp; done) | (simp; omega)))) | ((with_reducible refine Below.setCell ?_ ?_ _); rotate_left; (focus (first | omega | (dsimp only; omega) | (simp; done) | (simp; omega)))) | ((with_reducible refine Below.step ?_ (by assumption) ?_); rotate_left; (focus (first | omega | (dsimp only; omega) | (simp; done) | (simp; omega))))))⟩
        · have hq := ((hcells (k - 1) (by omega)).stays hbr hg).c0
          rw [if_neg hk0] at hkr
          generalize s.xs.getD (k - 1) E.zero = y at *
          obtain ⟨x, hx⟩ : ∃ x, s.xs.getD k E.zero = x := ⟨_, rfl⟩
          rw [hx] at hkr k0 k1 k2 k3 k4 hm
          have Hx := hid hx
          clear hx
          obtain ⟨xk, xv, xa, xg, xt⟩ := x
          simp only at k0 k1 k2 k3 k4
          have Hkr := hid hkr
          rw [hA]
          clear hA hkr hcells hd
          go_wp2_with fail
          refine (rentry_any xk xv xa xg xt _ hm.2.2.2).mono ?_; rintro e w1 ⟨rfl, hb1⟩; obtain ⟨hc1, hf1⟩ := bcell hb1; have hz1 := hb1.size; (try simp only [World.size_alloc] at hz1); (try simp only [World.size_setCell] at hz1)
          by_cases hc : chk ⟨xk, xv, xa, xg, xt⟩ = 0
          · rw [hc]
            have e0 := (hb1.cell (p := ⟨g, _, none⟩) hgr).trans k0
            have hq1 := (hb1.cell (p := ⟨g, _, none⟩) hgr).trans hq
            have hj0 : 0 < k := by omega
            have hj1 : (k : Int) < (s.xs.length : Int) := by omega
            have Hkr2 := hid ((if_pos hc).symm.trans Hkr.out)
            clear Hkr
            by_cases hle : xk ≤ y.key
            · have hr3 : (3 : Int) = r := by rw [← Hkr2.out, lowB]; simp [hle]
              subst hr3
              clear Hkr2
              go_wp2_with fail
              go_quiet (fail)
              go_wp2_with fail
              go_ret
              exact ⟨rfl, by (repeat (first | with_reducible exact Below.refl _ _ | with_reducible assumption | (with_reducible refine Below.drew ?_) | (with_reducible refine Below.manyDrew ?_ _) | ((with_reducible refine Below.alloc ?_ ?_ _); rotate_left; (focus (first | omega | (dsimp only; omega) | (simp; done) | (simp; omega)))) | ((with_reducible refine Below.setCell ?_ ?_ _); rotate_left; (focus (first | omega | (dsimp only; omega) | (simp; done) | (simp; omega)))) | ((with_reducible refine Below.step ?_ (by assumption) ?_); rotate_left; (focus (first | omega | (dsimp only; omega) | (simp; done) | (simp; omega))))))⟩
            · have Hkr3 := hid ((if_neg (show ¬ lowB (some y.key) xk = true by simp [lowB]; omega)).symm.trans Hkr2.out)
              clear Hkr2
              go_wp2_with fail
              go_quiet (fail)
              go_wp2_with fail
              go_roundw
              case rel => exact ⟨k + 1, by omega, by go_num, by rw [if_neg (Nat.succ_ne_zero k), Nat.add_sub_cancel]; rw [Hx.out]; exact Hkr3.out, by (repeat (first | with_reducible exact Below.refl _ _ | with_reducible assumption | (with_reducible refine Below.drew ?_) | (with_reducible refine Below.manyDrew ?_ _) | ((with_reducible refine Below.alloc ?_ ?_ _); rotate_left; (focus (first | omega | (dsimp only; omega) | (simp; done) | (simp; omega)))) | ((with_reducible refine Below.setCell ?_ ?_ _); rotate_left; (focus (first | omega | (dsimp only; omega) | (simp; done) | (simp; omega)))) | ((with_reducible refine Below.step ?_ (by assumption) ?_); rotate_left; (focus (first | omega | (dsimp only; omega) | (simp; done) | (simp; omega))))))⟩
              case measure => simp [intOf]; omega
          · have hcr : chk ⟨xk, xv, xa, xg, xt⟩ = r := by rw [← Hkr.out, if_neg hc]
            subst hcr
            clear Hkr
            go_wp2_with fail
            go_ret
            exact ⟨rfl, by (repeat (first | with_reducible exact Below.refl _ _ | with_reducible assumption | (with_reducible refine Below.drew ?_) | (with_reducible refine Below.manyDrew ?_ _) | ((with_reducible refine Below.alloc ?_ ?_ _); rotate_left; (focus (first | omega | (dsimp only; omega) | (simp; done) | (simp; omega)))) | ((with_reducible refine Below.setCell ?_ ?_ _); rotate_left; (focus (first | omega | (dsimp only; omega) | (simp; done) | (simp; omega)))) | ((with_reducible refine Below.step ?_ (by assumption) ?_); rotate_left; (focus (first | omega | (dsimp only; omega) | (simp; done) | (simp; omega))))))⟩
      · obtain rfl : k = s.xs.length := by omega
        have hr0 : (0 : Int) = r := by
          rw [List.drop_length] at hkr
          exact hkr
        subst hr0
        clear hkr
        go_wp2_with fail
        go_ret
        exact ⟨rfl, by (repeat (first | with_reducible exact Below.refl _ _ | with_reducible assumption | (with_reducible refine Below.drew ?_) | (with_reducible refine Below.manyDrew ?_ _) | ((with_reducible refine Below.alloc ?_ ?_ _); rotate_left; (focus (first | omega | (dsimp only; omega) | (simp; done) | (simp; omega)))) | ((with_reducible refine Below.setCell ?_ ?_ _); rotate_left; (focus (first | omega | (dsimp only; omega) | (simp; done) | (simp; omega)))) | ((with_reducible refine Below.step ?_ (by assumption) ?_); rotate_left; (focus (first | omega | (dsimp only; omega) | (simp; done) | (simp; omega))))))⟩

/-! ### mereref1.Get -/
def rget (l : List E) (k : Int) : E × Bool := match lk l k with | some e => (e, true) | none => (E.zero, false)
theorem rget_nil (k : Int) : rget [] k = (E.zero, false) := rfl
theorem rget_cons (e : E) (r : List E) (k : Int) : rget (e :: r) k = if e.key = k then (e, true) else rget r k := by
  unfold rget
  rw [lk_cons]
  by_cases h : e.key = k
  · rw [if_pos h, if_pos h]
  · rw [if_neg h, if_neg h]

set_option maxHeartbeats 2000000 in
theorem rget_any (s : SlV E) (key : Int) (w : World) (hs : EntriesAt w s) :
    Calls Tryd.prog 21 #[.slice s.A s.xs.length s.c, .int .i64 key] w fun e w' => e = .returned (.tuple #[(rget s.xs key).1.val, .bool (rget s.xs key).2]) ∧ Below w.heap.size w w' := by
  have hlen := hs.len
  unfold maxLen at hlen
  generalize hr : rget s.xs key = r
  have Hr := hid hr
  clear hr
  go_enter Tryd.func21, Tryd.ntmps21
  go_wp2_with fail
  go_loopw [6] (fun i wr => ∃ k : Nat, k ≤ s.xs.length ∧ i = .int .i64 k ∧ rget (s.xs.drop k) key = r ∧ Blk wr w.heap.size 47 #[.int .i64 0, .int .i64 0, .int .i64 0, .bool false, .string ⟨#[]⟩] ∧ Below w.heap.size w wr) (fun i _ => s.xs.length - (intOf i).toNat)
  case atStart =>
    refine ⟨0, Nat.zero_le _, rfl, Hr.out, Blk.new w _ _, by (repeat (first | with_reducible exact Below.refl _ _ | with_reducible assumption | (with_reducible refine Below.drew ?_) | (with_reducible refine Below.manyDrew ?_ _) | ((with_reducible refine Below.alloc ?_ ?_ _); rotate_left; (focus (first | omega | (dsimp only; omega) | (simp; done) | (simp; omega)))) | ((with_reducible refine Below.setCell ?_ ?_ _); rotate_left; (focus (first | omega | (dsimp only; omega) | (simp; done) | (simp; omega)))) | ((with_reducible refine Below.step ?_ (by assumption) ?_); rotate_left; (focus (first | omega | (dsimp only; omega) | (simp; done) | (simp; omega))))))⟩
  case round =>
    obtain ⟨k, hk, rfl, hkr, hB, hbr⟩ := hrel
    have hz0 := hbr.size
    have hz1 := hB.lt
    have HB := hid hB
    have f0 := hB.frozen 0
    have f1 := hB.frozen 1
    have f2 := hB.frozen 2
    have f3 := hB.frozen 3
    have f4 := hB.frozen 4
    have c0 := hB.cell 0
    have c1 := hB.cell 1
    have c2 := hB.cell 2
    have c3 := hB.cell 3
    have c4 := hB.cell 4
    clear hB
    by_cases hlt : k < s.xs.length
    · obtain ⟨g, off, hA, hg, hcells⟩ := hs.get (by omega)
      obtain ⟨k0, k1, k2, k3, k4⟩ := (hcells k hlt).stays hbr hg
      have hgr : g < wr.heap.size := by omega
      have hgn : g ≠ w.heap.size := by omega
      have hd : s.xs.drop k = s.xs.getD k E.zero :: s.xs.drop (k + 1) := by
        rw [List.drop_eq_getElem_cons hlt, List.getD, List.getElem?_eq_getElem hlt, Option.getD_some]
      rw [hd, rget_cons] at hkr
      generalize s.xs.getD k E.zero = x at *
      obtain ⟨xk, xv, xa, xg, xt⟩ := x
      simp only at k0 k1 k2 k3 k4 hkr
      rw [hA]
      clear hA hcells hd
      by_cases hkk : xk = key
      · subst hkk
        rw [if_pos rfl] at hkr
        subst hkr
        go_wp2_with fail
        refine bodyPost_ret (v := .tuple #[E.val ⟨xk, xv, xa, xg, xt⟩, .bool true]) ?_ rfl ⟨rfl, by (repeat (first | with_reducible exact Below.refl _ _ | with_reducible assumption | (with_reducible refine Below.drew ?_) | (with_reducible refine Below.manyDrew ?_ _) | ((with_reducible refine Below.alloc ?_ ?_ _); rotate_left; (focus (first | omega | (dsimp only; omega) | (simp; done) | (simp; omega)))) | ((with_reducible refine Below.setCell ?_ ?_ _); rotate_left; (focus (first | omega | (dsimp only; omega) | (simp; done) | (simp; omega)))) | ((with_reducible refine Below.step ?_ (by assumption) ?_); rotate_left; (focus (first | omega | (dsimp only; omega) | (simp; done) | (simp; omega))))))⟩
        exact results_box Tryd.results21 rfl (HB.out.put5 _ _ _ _ _) Tryd.underlying47 rfl (by kernel_rfl)
      · rw [if_neg hkk] at hkr
        have Hk := hid hkk
        go_wp2_with fail
        go_roundw
        case rel => exact ⟨k + 1, by omega, by go_num, hkr, HB.out, hbr⟩
        case measure => simp [intOf]; omega
    · obtain rfl : k = s.xs.length := by omega
      rw [List.drop_length, rget_nil] at hkr
      subst hkr
      go_wp2_with fail
      refine bodyPost_ret (v := .tuple #[E.zero.val, .bool false]) ?_ rfl ⟨rfl, by (repeat (first | with_reducible exact Below.refl _ _ | with_reducible assumption | (with_reducible refine Below.drew ?_) | (with_reducible refine Below.manyDrew ?_ _) | ((with_reducible refine Below.alloc ?_ ?_ _); rotate_left; (focus (first | omega | (dsimp only; omega) | (simp; done) | (simp; omega)))) | ((with_reducible refine Below.setCell ?_ ?_ _); rotate_left; (focus (first | omega | (dsimp only; omega) | (simp; done) | (simp; omega)))) | ((with_reducible refine Below.step ?_ (by assumption) ?_); rotate_left; (focus (first | omega | (dsimp only; omega) | (simp; done) | (simp; omega))))))⟩
      exact results_box Tryd.results21 rfl (HB.out.put5 _ _ _ _ _) Tryd.underlying47 rfl (by kernel_rfl)
end Go.Proofs.YtdocdmpfokdjkaaDoor
