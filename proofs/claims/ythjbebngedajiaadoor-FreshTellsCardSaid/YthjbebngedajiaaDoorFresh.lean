/-
  CONTRACTS: fresh.Get; fresh.Stale at a floor of 0. CONDITIONS: none.
-/
import Derived.Test.YthjbebngedajiaaDoorCGet
namespace Go.Proofs.YthjbebngedajiaaDoor
open Go.RowKit
open Go.ChangeShapes Go.WideShapes Go.ChangeAt

def freshR (l : List E) (k f : Int) : E × Int :=
  if seqB f = true then (if (getR l k).2 = 0 then (if (getR l k).1.asof < f then (E.zero, 8) else getR l k) else (E.zero, (getR l k).2)) else (E.zero, 1)

set_option maxHeartbeats 400000 in
theorem freshGet_any (s : SlV E) (k f : Int) (w : World) (hs : EntriesAt w s) :
    Calls Tryd.prog 18 #[.slice s.A s.xs.length s.c, .int .i64 k, .int .i64 f] w fun e w' => e = .returned (.tuple #[(freshR s.xs k f).1.val, errV (freshR s.xs k f).2]) ∧ Below w.heap.size w w' := by
  obtain ⟨r, hr⟩ : ∃ r, freshR s.xs k f = r := ⟨_, rfl⟩
  rw [hr]
  unfold freshR at hr
  obtain ⟨q, hq⟩ : ∃ q, getR s.xs k = q := ⟨_, rfl⟩
  rw [hq] at hr
  have Hq := hid hq
  clear hq
  obtain ⟨⟨k1, v1, a1, g1, t1⟩, n1⟩ := q
  rcases hf : seqB f with _ | _
  · rw [if_neg (by simp [hf])] at hr
    subst hr
    have Hf := hid hf
    clear hf
    go_enter Tryd.func18, Tryd.ntmps18
    go_wp2_with ((go_at_call 49; refine (seq_any _ _).mono ?_; rintro e w' ⟨rfl, rfl⟩); rw [Hf.out])
    refine bodyPost_ret (v := .tuple #[E.zero.val, errV 1]) ?_ rfl ⟨rfl, ?_⟩
    · exact results_box Tryd.results18 rfl (Blk.new_at (by simp)) Tryd.underlying26 rfl (by kernel_rfl)
    · (repeat (first | with_reducible exact Below.refl _ _ | with_reducible assumption | (with_reducible refine Below.drew ?_) | (with_reducible refine Below.manyDrew ?_ _) | ((with_reducible refine Below.alloc ?_ ?_ _); rotate_left; (focus (first | omega | (dsimp only; omega) | (simp; done) | (simp; omega)))) | ((with_reducible refine Below.setCell ?_ ?_ _); rotate_left; (focus (first | omega | (dsimp only; omega) | (simp; done) | (simp; omega)))) | ((with_reducible refine Below.step ?_ (by assumption) ?_); rotate_left; (focus (first | omega | (dsimp only; omega) | (simp; done) | (simp; omega))))))
  · rw [if_pos hf] at hr
    have Hf := hid hf
    clear hf
    simp only at hr
    by_cases hn : n1 = 0
    · rw [if_pos hn] at hr
      subst hn
      by_cases ha : a1 < f
      · rw [if_pos ha] at hr
        subst hr
        go_enter Tryd.func18, Tryd.ntmps18
        go_wp2_with ((go_at_call 49; refine (seq_any _ _).mono ?_; rintro e w' ⟨rfl, rfl⟩); rw [Hf.out])
        refine (get_any s k _ (hs.stays (by (repeat (first | with_reducible exact Below.refl _ _ | with_reducible assumption | (with_reducible refine Below.drew ?_) | (with_reducible refine Below.manyDrew ?_ _) | ((with_reducible refine Below.alloc ?_ ?_ _); rotate_left; (focus (first | omega | (dsimp only; omega) | (simp; done) | (simp; omega)))) | ((with_reducible refine Below.setCell ?_ ?_ _); rotate_left; (focus (first | omega | (dsimp only; omega) | (simp; done) | (simp; omega)))) | ((with_reducible refine Below.step ?_ (by assumption) ?_); rotate_left; (focus (first | omega | (dsimp only; omega) | (simp; done) | (simp; omega))))))))).mono ?_
        rw [Hq.out]
        unfold E.val
        rintro e w1 ⟨rfl, hb1⟩; obtain ⟨hc1, hf1⟩ := bcell hb1; have hz1 := hb1.size; (try simp only [World.size_alloc] at hz1); (try simp only [World.size_setCell] at hz1)
        have hl1 : w.heap.size < w1.heap.size := by omega
        rw [show errV 0 = .nilIface from rfl]
        go_wp2_with fail
        refine bodyPost_ret (v := .tuple #[E.zero.val, errV 8]) ?_ rfl ⟨rfl, ?_⟩
        · exact results_box Tryd.results18 rfl ((Blk.put5 ((Blk.new_at (by simp)).belowS hb1) _ _ _ _ _).alloc _) Tryd.underlying26 rfl (by kernel_rfl)
        · (repeat (first | with_reducible exact Below.refl _ _ | with_reducible assumption | (with_reducible refine Below.drew ?_) | (with_reducible refine Below.manyDrew ?_ _) | ((with_reducible refine Below.alloc ?_ ?_ _); rotate_left; (focus (first | omega | (dsimp only; omega) | (simp; done) | (simp; omega)))) | ((with_reducible refine Below.setCell ?_ ?_ _); rotate_left; (focus (first | omega | (dsimp only; omega) | (simp; done) | (simp; omega)))) | ((with_reducible refine Below.step ?_ (by assumption) ?_); rotate_left; (focus (first | omega | (dsimp only; omega) | (simp; done) | (simp; omega))))))
      · rw [if_neg ha] at hr
        subst hr
        go_enter Tryd.func18, Tryd.ntmps18
        go_wp2_with ((go_at_call 49; refine (seq_any _ _).mono ?_; rintro e w' ⟨rfl, rfl⟩); rw [Hf.out])
        refine (get_any s k _ (hs.stays (by (repeat (first | with_reducible exact Below.refl _ _ | with_reducible assumption | (with_reducible refine Below.drew ?_) | (with_reducible refine Below.manyDrew ?_ _) | ((with_reducible refine Below.alloc ?_ ?_ _); rotate_left; (focus (first | omega | (dsimp only; omega) | (simp; done) | (simp; omega)))) | ((with_reducible refine Below.setCell ?_ ?_ _); rotate_left; (focus (first | omega | (dsimp only; omega) | (simp; done) | (simp; omega)))) | ((with_reducible refine Below.step ?_ (by assumption) ?_); rotate_left; (focus (first | omega | (dsimp only; omega) | (simp; done) | (simp; omega))))))))).mono ?_
        rw [Hq.out]
        unfold E.val
        rintro e w1 ⟨rfl, hb1⟩; obtain ⟨hc1, hf1⟩ := bcell hb1; have hz1 := hb1.size; (try simp only [World.size_alloc] at hz1); (try simp only [World.size_setCell] at hz1)
        have hl1 : w.heap.size < w1.heap.size := by omega
        rw [show errV 0 = .nilIface from rfl]
        go_wp2_with fail
        refine bodyPost_ret (v := .tuple #[E.val ⟨k1, v1, a1, g1, t1⟩, errV 0]) ?_ rfl ⟨rfl, ?_⟩
        · exact results_box Tryd.results18 rfl ((Blk.put5 ((Blk.new_at (by simp)).belowS hb1) _ _ _ _ _).alloc _) Tryd.underlying26 rfl (by kernel_rfl)
        · (repeat (first | with_reducible exact Below.refl _ _ | with_reducible assumption | (with_reducible refine Below.drew ?_) | (with_reducible refine Below.manyDrew ?_ _) | ((with_reducible refine Below.alloc ?_ ?_ _); rotate_left; (focus (first | omega | (dsimp only; omega) | (simp; done) | (simp; omega)))) | ((with_reducible refine Below.setCell ?_ ?_ _); rotate_left; (focus (first | omega | (dsimp only; omega) | (simp; done) | (simp; omega)))) | ((with_reducible refine Below.step ?_ (by assumption) ?_); rotate_left; (focus (first | omega | (dsimp only; omega) | (simp; done) | (simp; omega))))))
    · rw [if_neg hn] at hr
      subst hr
      have he := errV_ne hn
      have He := hid he
      clear he hn
      go_enter Tryd.func18, Tryd.ntmps18
      go_wp2_with ((go_at_call 49; refine (seq_any _ _).mono ?_; rintro e w' ⟨rfl, rfl⟩); rw [Hf.out])
      refine (get_any s k _ (hs.stays (by (repeat (first | with_reducible exact Below.refl _ _ | with_reducible assumption | (with_reducible refine Below.drew ?_) | (with_reducible refine Below.manyDrew ?_ _) | ((with_reducible refine Below.alloc ?_ ?_ _); rotate_left; (focus (first | omega | (dsimp only; omega) | (simp; done) | (simp; omega)))) | ((with_reducible refine Below.setCell ?_ ?_ _); rotate_left; (focus (first | omega | (dsimp only; omega) | (simp; done) | (simp; omega)))) | ((with_reducible refine Below.step ?_ (by assumption) ?_); rotate_left; (focus (first | omega | (dsimp only; omega) | (simp; done) | (simp; omega))))))))).mono ?_
      rw [Hq.out]
      unfold E.val
      rintro e w1 ⟨rfl, hb1⟩; obtain ⟨hc1, hf1⟩ := bcell hb1; have hz1 := hb1.size; (try simp only [World.size_alloc] at hz1); (try simp only [World.size_setCell] at hz1)
      have hl1 : w.heap.size < w1.heap.size := by omega
      simp only []
      rw [He.out]
      go_wp2_with fail
      refine bodyPost_ret (v := .tuple #[E.zero.val, errV n1]) ?_ rfl ⟨rfl, ?_⟩
      · rw [He.out]
        exact results_box Tryd.results18 rfl ((Blk.put5 ((Blk.new_at (by simp)).belowS hb1) _ _ _ _ _).alloc _) Tryd.underlying26 rfl (by kernel_rfl)
      · (repeat (first | with_reducible exact Below.refl _ _ | with_reducible assumption | (with_reducible refine Below.drew ?_) | (with_reducible refine Below.manyDrew ?_ _) | ((with_reducible refine Below.alloc ?_ ?_ _); rotate_left; (focus (first | omega | (dsimp only; omega) | (simp; done) | (simp; omega)))) | ((with_reducible refine Below.setCell ?_ ?_ _); rotate_left; (focus (first | omega | (dsimp only; omega) | (simp; done) | (simp; omega)))) | ((with_reducible refine Below.step ?_ (by assumption) ?_); rotate_left; (focus (first | omega | (dsimp only; omega) | (simp; done) | (simp; omega))))))

theorem chk_asof_nn {e : E} (h : chk e = 0) : 0 ≤ e.asof := by
  unfold chk at h
  split at h
  · cases h
  · rename_i h1
    simp only [Bool.or_eq_true, not_or, Bool.not_eq_true, Bool.not_eq_false'] at h1
    exact (seqB_true.1 h1.1.2).1

set_option maxHeartbeats 400000 in
theorem stale_zero (s : SlV E) (w : World) (hs : EntriesAt w s) :
    Calls Tryd.prog 13 #[.slice s.A s.xs.length s.c, .int .i64 0] w fun e w' => e = .returned (.tuple #[.slice none 0 0, errV (chkC s.xs)]) ∧ Below w.heap.size w w' := by
  have H0 : Hid (seqB 0 = true) := hid (by decide)
  by_cases hc : chkC s.xs = 0
  · obtain ⟨hn, hch, _, _⟩ := chkC_ok hc
    have Hc := hid hc
    have Hch := hid hch
    clear hc hch
    go_enter Tryd.func13, Tryd.ntmps13
    go_wp2_with ((go_at_call 49; refine (seq_any _ _).mono ?_; rintro e w' ⟨rfl, rfl⟩); rw [H0.out])
    refine (ccheck_any s _ (hs.stays (by (repeat (first | with_reducible exact Below.refl _ _ | with_reducible assumption | (with_reducible refine Below.drew ?_) | (with_reducible refine Below.manyDrew ?_ _) | ((with_reducible refine Below.alloc ?_ ?_ _); rotate_left; (focus (first | omega | (dsimp only; omega) | (simp; done) | (simp; omega)))) | ((with_reducible refine Below.setCell ?_ ?_ _); rotate_left; (focus (first | omega | (dsimp only; omega) | (simp; done) | (simp; omega)))) | ((with_reducible refine Below.step ?_ (by assumption) ?_); rotate_left; (focus (first | omega | (dsimp only; omega) | (simp; done) | (simp; omega))))))))).mono ?_; rintro e w1 ⟨rfl, hb1⟩; obtain ⟨hc1, hf1⟩ := bcell hb1; have hz1 := hb1.size; (try simp only [World.size_alloc] at hz1); (try simp only [World.size_setCell] at hz1)
    rw [Hc.out, show errV 0 = .nilIface from rfl]
    go_wp2_with fail
    go_loopw [7, 21] (fun o i wr => ∃ k : Nat, k ≤ s.xs.length ∧ o = .slice none 0 0 ∧ i = .int .i64 k ∧ Below w.heap.size w wr) (fun _ i _ => s.xs.length - (intOf i).toNat)
    case atStart => exact ⟨0, Nat.zero_le _, rfl, rfl, by (repeat (first | with_reducible exact Below.refl _ _ | with_reducible assumption | (with_reducible refine Below.drew ?_) | (with_reducible refine Below.manyDrew ?_ _) | ((with_reducible refine Below.alloc ?_ ?_ _); rotate_left; (focus (first | omega | (dsimp only; omega) | (simp; done) | (simp; omega)))) | ((with_reducible refine Below.setCell ?_ ?_ _); rotate_left; (focus (first | omega | (dsimp only; omega) | (simp; done) | (simp; omega)))) | ((with_reducible refine Below.step ?_ (by assumption) ?_); rotate_left; (focus (first | omega | (dsimp only; omega) | (simp; done) | (simp; omega))))))⟩
    case round =>
      obtain ⟨k, hk, rfl, rfl, hbr⟩ := hrel
      have hz0 := hbr.size
      by_cases hlt : k < s.xs.length
      · obtain ⟨g, off, hA, hg, hcells⟩ := hs.get (by omega)
        obtain ⟨k0, k1, k2, k3, k4⟩ := (hcells k hlt).stays hbr hg
        have hm := chk_asof_nn (Hch.out _ (getD_mem hlt))
        generalize s.xs.getD k E.zero = x at *
        obtain ⟨xk, xv, xa, xg, xt⟩ := x
        simp only at k0 k1 k2 k3 k4 hm
        have hm' : ¬ xa < 0 := by omega
        rw [hA]
        clear hA hcells hm
        go_wp2_with fail
        go_roundw
        case rel => exact ⟨k + 1, by omega, rfl, by go_num, by (repeat (first | with_reducible exact Below.refl _ _ | with_reducible assumption | (with_reducible refine Below.drew ?_) | (with_reducible refine Below.manyDrew ?_ _) | ((with_reducible refine Below.alloc ?_ ?_ _); rotate_left; (focus (first | omega | (dsimp only; omega) | (simp; done) | (simp; omega)))) | ((with_reducible refine Below.setCell ?_ ?_ _); rotate_left; (focus (first | omega | (dsimp only; omega) | (simp; done) | (simp; omega)))) | ((with_reducible refine Below.step ?_ (by assumption) ?_); rotate_left; (focus (first | omega | (dsimp only; omega) | (simp; done) | (simp; omega))))))⟩
        case measure => simp [intOf]; omega
      · obtain rfl : k = s.xs.length := by omega
        go_wp2_with fail
        refine bodyPost_ret (v := .tuple #[.slice none 0 0, .nilIface]) ?_ rfl ⟨by rw [Hc.out]; rfl, by (repeat (first | with_reducible exact Below.refl _ _ | with_reducible assumption | (with_reducible refine Below.drew ?_) | (with_reducible refine Below.manyDrew ?_ _) | ((with_reducible refine Below.alloc ?_ ?_ _); rotate_left; (focus (first | omega | (dsimp only; omega) | (simp; done) | (simp; omega)))) | ((with_reducible refine Below.setCell ?_ ?_ _); rotate_left; (focus (first | omega | (dsimp only; omega) | (simp; done) | (simp; omega)))) | ((with_reducible refine Below.step ?_ (by assumption) ?_); rotate_left; (focus (first | omega | (dsimp only; omega) | (simp; done) | (simp; omega))))))⟩
        simp [results, Tryd.results13, go_sem]
  · have he := errV_ne hc
    have He := hid he
    clear he hc
    go_enter Tryd.func13, Tryd.ntmps13
    go_wp2_with ((go_at_call 49; refine (seq_any _ _).mono ?_; rintro e w' ⟨rfl, rfl⟩); rw [H0.out])
    refine (ccheck_any s _ (hs.stays (by (repeat (first | with_reducible exact Below.refl _ _ | with_reducible assumption | (with_reducible refine Below.drew ?_) | (with_reducible refine Below.manyDrew ?_ _) | ((with_reducible refine Below.alloc ?_ ?_ _); rotate_left; (focus (first | omega | (dsimp only; omega) | (simp; done) | (simp; omega)))) | ((with_reducible refine Below.setCell ?_ ?_ _); rotate_left; (focus (first | omega | (dsimp only; omega) | (simp; done) | (simp; omega)))) | ((with_reducible refine Below.step ?_ (by assumption) ?_); rotate_left; (focus (first | omega | (dsimp only; omega) | (simp; done) | (simp; omega))))))))).mono ?_; rintro e w1 ⟨rfl, hb1⟩; obtain ⟨hc1, hf1⟩ := bcell hb1; have hz1 := hb1.size; (try simp only [World.size_alloc] at hz1); (try simp only [World.size_setCell] at hz1)
    rw [He.out]
    go_wp2_with fail
    refine bodyPost_ret (v := .tuple #[.slice none 0 0, _]) ?_ rfl ⟨by rw [He.out], by (repeat (first | with_reducible exact Below.refl _ _ | with_reducible assumption | (with_reducible refine Below.drew ?_) | (with_reducible refine Below.manyDrew ?_ _) | ((with_reducible refine Below.alloc ?_ ?_ _); rotate_left; (focus (first | omega | (dsimp only; omega) | (simp; done) | (simp; omega)))) | ((with_reducible refine Below.setCell ?_ ?_ _); rotate_left; (focus (first | omega | (dsimp only; omega) | (simp; done) | (simp; omega)))) | ((with_reducible refine Below.step ?_ (by assumption) ?_); rotate_left; (focus (first | omega | (dsimp only; omega) | (simp; done) | (simp; omega))))))⟩
    simp [results, Tryd.results13, go_sem]
end Go.Proofs.YthjbebngedajiaaDoor
