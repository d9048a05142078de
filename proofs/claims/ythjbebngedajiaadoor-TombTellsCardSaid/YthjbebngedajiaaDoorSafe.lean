/-
  CONTRACTS of package tomb: what alike hands out. CONDITIONS: none.
-/
import Derived.Test.YthjbebngedajiaaDoorSweep
namespace Go.Proofs.YthjbebngedajiaaDoor
open Go.RowKit
open Go.ChangeShapes Go.WideShapes Go.ChangeAt

def alikeB (e : E) (l : List E) : Bool := hasK e.key l && (l.getD (plc e.key l) E.zero).gone && decide ((l.getD (plc e.key l) E.zero).ver = e.ver)

set_option maxHeartbeats 400000 in
theorem alike1_any (c : SlV E) (b : Nat) (e : E) (w : World) (hs : EntriesAt w c) (hc : chkC c.xs = 0) (hk : 0 ≤ e.key ∧ e.key < 8) (he : EAt w b 0 e) (hb : b < w.heap.size) :
    Calls Tryd.prog 77 #[.slice c.A c.xs.length c.c, .pointer (some ⟨b, 0, none⟩)] w fun r w' => r = .returned (.bool (alikeB e c.xs)) ∧ Below w.heap.size w w' := by
  obtain ⟨hn, _, hS, hK⟩ := chkC_ok hc
  have HS := hid hS
  have HK := hid hK
  obtain ⟨r, hr⟩ : ∃ r, alikeB e c.xs = r := ⟨_, rfl⟩
  rw [hr]
  unfold alikeB at hr
  obtain ⟨ek, ev, ea, eg, et⟩ := e
  obtain ⟨k0, k1, k2, k3, k4⟩ := he
  simp only at hk hr k0 k1 k2 k3 k4
  clear hS hK hc
  rcases hh : hasK ek c.xs with _ | _
  · rw [hh, Bool.false_and, Bool.false_and] at hr
    subst hr
    have Hh := hid hh
    clear hh
    go_enter Tryd.func77, Tryd.ntmps77
    go_wp2_with fail
    refine (place_any ek c _ hs HS.out HK.out hk hn).mono ?_; rintro e w1 ⟨rfl, hb1⟩; obtain ⟨hc1, hf1⟩ := bcell hb1; have hz1 := hb1.size; (try simp only [World.size_alloc] at hz1); (try simp only [World.size_setCell] at hz1)
    rw [Hh.out]
    go_wp2_with fail
    go_quiet (fail)
    go_wp2_with fail
    go_ret
    exact ⟨rfl, by (repeat (first | with_reducible exact Below.refl _ _ | with_reducible assumption | (with_reducible refine Below.drew ?_) | (with_reducible refine Below.manyDrew ?_ _) | ((with_reducible refine Below.alloc ?_ ?_ _); rotate_left; (focus (first | omega | (dsimp only; omega) | (simp; done) | (simp; omega)))) | ((with_reducible refine Below.setCell ?_ ?_ _); rotate_left; (focus (first | omega | (dsimp only; omega) | (simp; done) | (simp; omega)))) | ((with_reducible refine Below.step ?_ (by assumption) ?_); rotate_left; (focus (first | omega | (dsimp only; omega) | (simp; done) | (simp; omega))))))⟩
  · rw [hh, Bool.true_and] at hr
    have hp : plc ek c.xs < c.xs.length := by
      unfold hasK at hh
      simp at hh
      exact hh.1
    obtain ⟨g, off, hA, hg, hcells⟩ := hs.get (by omega)
    obtain ⟨q0, q1, q2, q3, q4⟩ := hcells _ hp
    have hcl := hs.len
    unfold maxLen at hcl
    generalize c.xs.getD (plc ek c.xs) E.zero = x at *
    obtain ⟨xk, xv, xa, xg, xt⟩ := x
    simp only at q0 q1 q2 q3 q4 hr
    have Hr := hid hr
    have Hh := hid hh
    have HA := hid hA
    clear hcells hr hh hA
    go_enter Tryd.func77, Tryd.ntmps77
    go_wp2_with fail
    refine (place_any ek c _ hs HS.out HK.out hk hn).mono ?_; rintro e w1 ⟨rfl, hb1⟩; obtain ⟨hc1, hf1⟩ := bcell hb1; have hz1 := hb1.size; (try simp only [World.size_alloc] at hz1); (try simp only [World.size_setCell] at hz1)
    rw [Hh.out, HA.out]
    generalize plc ek c.xs = q at *
    rcases xg with _ | _
    · go_wp2_with fail
      go_quiet (fail)
      go_wp2_with fail
      go_ret
      exact ⟨ret_b (by rw [← Hr.out]; rfl), by (repeat (first | with_reducible exact Below.refl _ _ | with_reducible assumption | (with_reducible refine Below.drew ?_) | (with_reducible refine Below.manyDrew ?_ _) | ((with_reducible refine Below.alloc ?_ ?_ _); rotate_left; (focus (first | omega | (dsimp only; omega) | (simp; done) | (simp; omega)))) | ((with_reducible refine Below.setCell ?_ ?_ _); rotate_left; (focus (first | omega | (dsimp only; omega) | (simp; done) | (simp; omega)))) | ((with_reducible refine Below.step ?_ (by assumption) ?_); rotate_left; (focus (first | omega | (dsimp only; omega) | (simp; done) | (simp; omega))))))⟩
    · go_wp2_with fail
      go_quiet (fail)
      go_wp2_with fail
      go_ret
      exact ⟨ret_b (by rw [← Hr.out]; first | rfl | (rw [Bool.eq_iff_iff]; simp)), by (repeat (first | with_reducible exact Below.refl _ _ | with_reducible assumption | (with_reducible refine Below.drew ?_) | (with_reducible refine Below.manyDrew ?_ _) | ((with_reducible refine Below.alloc ?_ ?_ _); rotate_left; (focus (first | omega | (dsimp only; omega) | (simp; done) | (simp; omega)))) | ((with_reducible refine Below.setCell ?_ ?_ _); rotate_left; (focus (first | omega | (dsimp only; omega) | (simp; done) | (simp; omega)))) | ((with_reducible refine Below.step ?_ (by assumption) ?_); rotate_left; (focus (first | omega | (dsimp only; omega) | (simp; done) | (simp; omega))))))⟩
end Go.Proofs.YthjbebngedajiaaDoor
