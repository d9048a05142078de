/-
  CONTRACTS: cache.Get, fresh.Stale, fresh.Get. CONDITIONS: none.
-/
import Derived.Test.YtlcbdhblaamekaaDoorCCheck
import Derived.Deep.AppendLies
import Derived.Maps.AppendAt
namespace Go.Proofs.YtlcbdhblaamekaaDoor
open Go.RowKit
open Go.ChangeShapes Go.WideShapes Go.ChangeAt

def getR (l : List E) (k : Int) : E × Int :=
  if chkC l = 0 then (if keyB k = true then (if hasK k l = true then (l.getD (plc k l) E.zero, 0) else (E.zero, 5)) else (E.zero, 1)) else (E.zero, chkC l)

set_option maxHeartbeats 400000 in
theorem get_any (s : SlV E) (k : Int) (w : World) (hs : EntriesAt w s) :
    Calls Tryd.prog 12 #[.slice s.A s.xs.length s.c, .int .i64 k] w fun e w' => e = .returned (.tuple #[(getR s.xs k).1.val, errV (getR s.xs k).2]) ∧ Below w.heap.size w w' := by
  obtain ⟨r, hr⟩ : ∃ r, getR s.xs k = r := ⟨_, rfl⟩
  rw [hr]
  unfold getR at hr
  have Hr0 := hid hr
  by_cases hc : chkC s.xs = 0
  · rw [if_pos hc] at hr
    have He : Hid (errV (chkC s.xs) = .nilIface) := by rw [hc]; exact hid rfl
    obtain ⟨hn, _, hS, hK⟩ := chkC_ok hc
    rcases hk : keyB k with _ | _
    · rw [if_neg (by simp [hk])] at hr
      subst hr
      have Hk := hid hk
      clear hk hc hS hK
      go_enter Tryd.func12, Tryd.ntmps12
      go_wp2_with fail
      refine (ccheck_any s _ (hs.stays (by (repeat (first | with_reducible exact Below.refl _ _ | with_reducible assumption | (with_reducible refine Below.drew ?_) | (with_reducible refine Below.manyDrew ?_ _) | ((with_reducible refine Below.alloc ?_ ?_ _); rotate_left; (focus (first | omega | (dsimp only; omega) | (simp; done) | (simp; omega)))) | ((with_reducible refine Below.setCell ?_ ?_ _); rotate_left; (focus (first | omega | (dsimp only; omega) | (simp; done) | (simp; omega)))) | ((with_reducible refine Below.step ?_ (by assumption) ?_); rotate_left; (focus (first | omega | (dsimp only; omega) | (simp; done) | (simp; omega))))))))).mono ?_; rintro e w1 ⟨rfl, hb1⟩; obtain ⟨hc1, hf1⟩ := bcell hb1; have hz1 := hb1.size; (try simp only [World.size_alloc] at hz1); (try simp only [World.size_setCell] at hz1)
      rw [He.out]
      go_wp2_with ((go_at_call 33; refine (key_any _ _).mono ?_; rintro e w' ⟨rfl, rfl⟩); rw [Hk.out])
      refine bodyPost_ret (v := .tuple #[E.zero.val, errV 1]) ?_ rfl ⟨rfl, ?_⟩
      · exact results_box Tryd.results12 rfl (Blk.put5 ((Blk.new_at (by simp)).belowS hb1) _ _ _ _ _) Tryd.underlying38 rfl (by kernel_rfl)
      · (repeat (first | with_reducible exact Below.refl _ _ | with_reducible assumption | (with_reducible refine Below.drew ?_) | (with_reducible refine Below.manyDrew ?_ _) | ((with_reducible refine Below.alloc ?_ ?_ _); rotate_left; (focus (first | omega | (dsimp only; omega) | (simp; done) | (simp; omega)))) | ((with_reducible refine Below.setCell ?_ ?_ _); rotate_left; (focus (first | omega | (dsimp only; omega) | (simp; done) | (simp; omega)))) | ((with_reducible refine Below.step ?_ (by assumption) ?_); rotate_left; (focus (first | omega | (dsimp only; omega) | (simp; done) | (simp; omega))))))
    · rw [if_pos hk] at hr
      have hk' := keyB_true.1 hk
      have Hk := hid hk
      have HS := hid hS
      have HK := hid hK
      rcases hh : hasK k s.xs with _ | _
      · rw [if_neg (by simp [hh])] at hr
        subst hr
        have Hh := hid hh
        clear hk hc hS hK hh hk'
        go_enter Tryd.func12, Tryd.ntmps12
        go_wp2_with fail
        refine (ccheck_any s _ (hs.stays (by (repeat (first | with_reducible exact Below.refl _ _ | with_reducible assumption | (with_reducible refine Below.drew ?_) | (with_reducible refine Below.manyDrew ?_ _) | ((with_reducible refine Below.alloc ?_ ?_ _); rotate_left; (focus (first | omega | (dsimp only; omega) | (simp; done) | (simp; omega)))) | ((with_reducible refine Below.setCell ?_ ?_ _); rotate_left; (focus (first | omega | (dsimp only; omega) | (simp; done) | (simp; omega)))) | ((with_reducible refine Below.step ?_ (by assumption) ?_); rotate_left; (focus (first | omega | (dsimp only; omega) | (simp; done) | (simp; omega))))))))).mono ?_; rintro e w1 ⟨rfl, hb1⟩; obtain ⟨hc1, hf1⟩ := bcell hb1; have hz1 := hb1.size; (try simp only [World.size_alloc] at hz1); (try simp only [World.size_setCell] at hz1)
        have hl1 : w.heap.size < w1.heap.size := by omega
        rw [He.out]
        go_wp2_with ((go_at_call 33; refine (key_any _ _).mono ?_; rintro e w' ⟨rfl, rfl⟩); rw [Hk.out])
        refine (place_any k s _ ((hs.stays (by (repeat (first | with_reducible exact Below.refl _ _ | with_reducible assumption | (with_reducible refine Below.drew ?_) | (with_reducible refine Below.manyDrew ?_ _) | ((with_reducible refine Below.alloc ?_ ?_ _); rotate_left; (focus (first | omega | (dsimp only; omega) | (simp; done) | (simp; omega)))) | ((with_reducible refine Below.setCell ?_ ?_ _); rotate_left; (focus (first | omega | (dsimp only; omega) | (simp; done) | (simp; omega)))) | ((with_reducible refine Below.step ?_ (by assumption) ?_); rotate_left; (focus (first | omega | (dsimp only; omega) | (simp; done) | (simp; omega)))))))).stays hb1) HS.out HK.out (keyB_true.1 Hk.out) hn).mono ?_; rintro e w2 ⟨rfl, hb2⟩; obtain ⟨hc2, hf2⟩ := bcell hb2; have hz2 := hb2.size; (try simp only [World.size_alloc] at hz2); (try simp only [World.size_setCell] at hz2)
        rw [Hh.out]
        go_wp2_with fail
        refine bodyPost_ret (v := .tuple #[E.zero.val, errV 5]) ?_ rfl ⟨rfl, ?_⟩
        · exact results_box Tryd.results12 rfl (Blk.put5 (((Blk.new_at (by simp)).belowS hb1).belowS hb2) _ _ _ _ _) Tryd.underlying38 rfl (by kernel_rfl)
        · (repeat (first | with_reducible exact Below.refl _ _ | with_reducible assumption | (with_reducible refine Below.drew ?_) | (with_reducible refine Below.manyDrew ?_ _) | ((with_reducible refine Below.alloc ?_ ?_ _); rotate_left; (focus (first | omega | (dsimp only; omega) | (simp; done) | (simp; omega)))) | ((with_reducible refine Below.setCell ?_ ?_ _); rotate_left; (focus (first | omega | (dsimp only; omega) | (simp; done) | (simp; omega)))) | ((with_reducible refine Below.step ?_ (by assumption) ?_); rotate_left; (focus (first | omega | (dsimp only; omega) | (simp; done) | (simp; omega))))))
      · rw [if_pos hh] at hr
        have hp : plc k s.xs < s.xs.length := by
          unfold hasK at hh
          simp at hh
          exact hh.1
        obtain ⟨g, off, hA, hg, hcells⟩ := hs.get (by omega)
        have hE := hcells _ hp
        obtain ⟨x, hx⟩ : ∃ x, s.xs.getD (plc k s.xs) E.zero = x := ⟨_, rfl⟩
        rw [hx] at hE hr
        subst hr
        have Hh := hid hh
        have hlen := hs.len
        unfold maxLen at hlen
        have HA := hid hA
        clear hk hc hS hK hh hk' hcells hx hA
        go_enter Tryd.func12, Tryd.ntmps12
        go_wp2_with fail
        refine (ccheck_any s _ (hs.stays (by (repeat (first | with_reducible exact Below.refl _ _ | with_reducible assumption | (with_reducible refine Below.drew ?_) | (with_reducible refine Below.manyDrew ?_ _) | ((with_reducible refine Below.alloc ?_ ?_ _); rotate_left; (focus (first | omega | (dsimp only; omega) | (simp; done) | (simp; omega)))) | ((with_reducible refine Below.setCell ?_ ?_ _); rotate_left; (focus (first | omega | (dsimp only; omega) | (simp; done) | (simp; omega)))) | ((with_reducible refine Below.step ?_ (by assumption) ?_); rotate_left; (focus (first | omega | (dsimp only; omega) | (simp; done) | (simp; omega))))))))).mono ?_; rintro e w1 ⟨rfl, hb1⟩; obtain ⟨hc1, hf1⟩ := bcell hb1; have hz1 := hb1.size; (try simp only [World.size_alloc] at hz1); (try simp only [World.size_setCell] at hz1)
        have hl1 : w.heap.size < w1.heap.size := by omega
        rw [He.out]
        go_wp2_with ((go_at_call 33; refine (key_any _ _).mono ?_; rintro e w' ⟨rfl, rfl⟩); rw [Hk.out])
        refine (place_any k s _ ((hs.stays (by (repeat (first | with_reducible exact Below.refl _ _ | with_reducible assumption | (with_reducible refine Below.drew ?_) | (with_reducible refine Below.manyDrew ?_ _) | ((with_reducible refine Below.alloc ?_ ?_ _); rotate_left; (focus (first | omega | (dsimp only; omega) | (simp; done) | (simp; omega)))) | ((with_reducible refine Below.setCell ?_ ?_ _); rotate_left; (focus (first | omega | (dsimp only; omega) | (simp; done) | (simp; omega)))) | ((with_reducible refine Below.step ?_ (by assumption) ?_); rotate_left; (focus (first | omega | (dsimp only; omega) | (simp; done) | (simp; omega)))))))).stays hb1) HS.out HK.out (keyB_true.1 Hk.out) hn).mono ?_; rintro e w2 ⟨rfl, hb2⟩; obtain ⟨hc2, hf2⟩ := bcell hb2; have hz2 := hb2.size; (try simp only [World.size_alloc] at hz2); (try simp only [World.size_setCell] at hz2)
        have hbb : Below w.heap.size w w2 := by (repeat (first | with_reducible exact Below.refl _ _ | with_reducible assumption | (with_reducible refine Below.drew ?_) | (with_reducible refine Below.manyDrew ?_ _) | ((with_reducible refine Below.alloc ?_ ?_ _); rotate_left; (focus (first | omega | (dsimp only; omega) | (simp; done) | (simp; omega)))) | ((with_reducible refine Below.setCell ?_ ?_ _); rotate_left; (focus (first | omega | (dsimp only; omega) | (simp; done) | (simp; omega)))) | ((with_reducible refine Below.step ?_ (by assumption) ?_); rotate_left; (focus (first | omega | (dsimp only; omega) | (simp; done) | (simp; omega))))))
        obtain ⟨k0, k1, k2, k3, k4⟩ := hE.stays hbb hg
        rw [Hh.out, HA.out]
        obtain ⟨xk, xv, xa, xg, xt⟩ := x
        simp only at k0 k1 k2 k3 k4
        generalize plc k s.xs = i at *
        have hgl : g < w2.heap.size := by omega
        go_wp2_with fail
        refine bodyPost_ret (v := .tuple #[E.val ⟨xk, xv, xa, xg, xt⟩, errV 0]) ?_ rfl ⟨rfl, ?_⟩
        · exact results_box Tryd.results12 rfl (Blk.put5 (((Blk.new_at (by simp)).belowS hb1).belowS hb2) _ _ _ _ _) Tryd.underlying38 rfl (by kernel_rfl)
        · (repeat (first | with_reducible exact Below.refl _ _ | with_reducible assumption | (with_reducible refine Below.drew ?_) | (with_reducible refine Below.manyDrew ?_ _) | ((with_reducible refine Below.alloc ?_ ?_ _); rotate_left; (focus (first | omega | (dsimp only; omega) | (simp; done) | (simp; omega)))) | ((with_reducible refine Below.setCell ?_ ?_ _); rotate_left; (focus (first | omega | (dsimp only; omega) | (simp; done) | (simp; omega)))) | ((with_reducible refine Below.step ?_ (by assumption) ?_); rotate_left; (focus (first | omega | (dsimp only; omega) | (simp; done) | (simp; omega))))))
  · rw [if_neg hc] at hr
    subst hr
    have he := errV_ne hc
    have He := hid he
    clear he hc
    go_enter Tryd.func12, Tryd.ntmps12
    go_wp2_with fail
    refine (ccheck_any s _ (hs.stays (by (repeat (first | with_reducible exact Below.refl _ _ | with_reducible assumption | (with_reducible refine Below.drew ?_) | (with_reducible refine Below.manyDrew ?_ _) | ((with_reducible refine Below.alloc ?_ ?_ _); rotate_left; (focus (first | omega | (dsimp only; omega) | (simp; done) | (simp; omega)))) | ((with_reducible refine Below.setCell ?_ ?_ _); rotate_left; (focus (first | omega | (dsimp only; omega) | (simp; done) | (simp; omega)))) | ((with_reducible refine Below.step ?_ (by assumption) ?_); rotate_left; (focus (first | omega | (dsimp only; omega) | (simp; done) | (simp; omega))))))))).mono ?_; rintro e w1 ⟨rfl, hb1⟩; obtain ⟨hc1, hf1⟩ := bcell hb1; have hz1 := hb1.size; (try simp only [World.size_alloc] at hz1); (try simp only [World.size_setCell] at hz1)
    rw [He.out]
    go_wp2_with fail
    refine bodyPost_ret (v := .tuple #[E.zero.val, errV (chkC s.xs)]) ?_ rfl ⟨rfl, ?_⟩
    · rw [He.out]
      exact results_box Tryd.results12 rfl (Blk.put5 ((Blk.new_at (by simp)).belowS hb1) _ _ _ _ _) Tryd.underlying38 rfl (by kernel_rfl)
    · (repeat (first | with_reducible exact Below.refl _ _ | with_reducible assumption | (with_reducible refine Below.drew ?_) | (with_reducible refine Below.manyDrew ?_ _) | ((with_reducible refine Below.alloc ?_ ?_ _); rotate_left; (focus (first | omega | (dsimp only; omega) | (simp; done) | (simp; omega)))) | ((with_reducible refine Below.setCell ?_ ?_ _); rotate_left; (focus (first | omega | (dsimp only; omega) | (simp; done) | (simp; omega)))) | ((with_reducible refine Below.step ?_ (by assumption) ?_); rotate_left; (focus (first | omega | (dsimp only; omega) | (simp; done) | (simp; omega))))))
end Go.Proofs.YtlcbdhblaamekaaDoor
