/-
  CONTRACTS: fresh.Get; fresh.Stale at a floor of 0. CONDITIONS: none.
-/
import Derived.Test.YtdocdmpfokdjkaaCGet
namespace Go.Proofs.Ytdocdmpfokdjkaa
open Go.RowKit
open Go.ChangeShapes Go.WideShapes Go.ChangeAt

def freshR (l : List E) (k f : Int) : E × Int :=
  if seqB f = true then (if (getR l k).2 = 0 then (if (getR l k).1.asof < f then (E.zero, 8) else getR l k) else (E.zero, (getR l k).2)) else (E.zero, 1)

theorem chk_asof_nn {e : E} (h : chk e = 0) : 0 ≤ e.asof := by
  unfold chk at h
  split at h
  · cases h
  · rename_i h1
    simp only [Bool.or_eq_true, not_or, Bool.not_eq_true, Bool.not_eq_false'] at h1
    exact (seqB_true.1 h1.1.2).1

set_option maxHeartbeats 400000 in
theorem stale_zero (s : SlV E) (w : World) (hs : EntriesAt w s) :
    Calls Try.prog 20 #[.slice s.A s.xs.length s.c, .int .i64 0] w fun e w' => e = .returned (.tuple #[.slice none 0 0, errV (chkC s.xs)]) ∧ Below w.heap.size w w' := by
  have H0 : Hid (seqB 0 = true) := hid (by decide)
  by_cases hc : chkC s.xs = 0
  · obtain ⟨hn, hch, _, _⟩ := chkC_ok hc
    have Hc := hid hc
    have Hch := hid hch
    clear hc hch
    go_enter Try.func20, Try.ntmps20
    go_wp2_with ((go_at_call 33; refine (seq_any _ _).mono ?_; rintro e w' ⟨rfl, rfl⟩); rw [H0.out])
    refine (ccheck_any s _ (hs.stays (by (repeat (first | with_reducible exact Below.refl _ _ | with_reducible assumption | (with_reducible refine Below.drew ?_) | (with_reducible refine Below.manyDrew ?_ _) | ((with_reducible refine Below.alloc ?_ ?_ _); rotate_left; (focus (first | omega | (dsimp only; omega) | (simp; done) | (simp; omega)))) | ((with_reducible refine Below.setCell ?_ ?_ _); rotate_left; (focus (first | omega | (dsimp only; omega) | (simp; done) | (simp; omega)))) | ((with_reducible refine Below.step ?_ (by assumption) ?_); rotate_left; (focus (first | omega | (dsimp only; omega) | (simp; done) | (simp; omega))))))))).mono ?_; rintro e w1 ⟨rfl, hb1⟩; obtain ⟨hc1, hf1⟩ := bcell hb1; have hz1 := hb1.size; (try simp only [World.size_alloc] at hz1); (try simp only [World.size_setCell] at hz1)
    rw [Hc.out, show errV 0 = .nilIface from rfl]
    go_wp2_with fail
    go_loopw [7, 21] (fun o i wr => ∃ k : Nat, k ≤ s.xs.length ∧ o = .slice none 0 0 ∧ i = .int .i64 k ∧ Below w.heap.size w wr) (fun _ i _ => s.xs.length - (intOf i).toNat)
    case atStart => exact ⟨0, Nat.zero_le _, rfl, rfl, by (repeat (first | with_reducible exact Below.refl _ _ | with_reducible assumption | (with_reducible refine Below.drew ?_) | (with_reducible refine Below.manyDrew ?_ _) | ((with_reducible refine Below.alloc ?_ ?_ _); rotate_left; (focus (first | omega | (dsimp only; omega) | (simp; done) | (simp; omega)))) | ((with_reducible refine Below.setCell ?_ ?_ _); rotate_left; (focus (first | omega | (dsimp only; omega) | (simp; done) | (simp; omega)))) | ((with_reducible refine Below.step ?_ (by assumption) ?_); rotate_left; (focus (first | omega | (dsimp only; omega) | (simp; done) | (simp; omega))))))⟩
    case round =>
      obtain ⟨k, hk, rfl, rfl, hbr⟩ := hrel
      have hz0 := hbr.size
      by_cases hlt : k < s.xs.length
      · obtain ⟨g, off, hA, hg, hcells⟩ := hs.get (by omega)
        obtain ⟨k0, k1, k2, k3, k4⟩ := (hcells k hlt).stays hbr hg
        have hm := chk_asof_nn (Hch.out _ (getD_mem hlt))
        generalize s.xs.getD k E.zero = x at *
        obtain ⟨xk, xv, xa, xg, xt⟩ := x
        simp only at k0 k1 k2 k3 k4 hm
        have hm' : ¬ xa < 0 := by omega
        rw [hA]
        clear hA hcells hm
        go_wp2_with fail
        go_roundw
        case rel => exact ⟨k + 1, by omega, rfl, by go_num, by (repeat (first | with_reducible exact Below.refl _ _ | with_reducible assumption | (with_reducible refine Below.drew ?_) | (with_reducible refine Below.manyDrew ?_ _) | ((with_reducible refine Below.alloc ?_ ?_ _); rotate_left; (focus (first | omega | (dsimp only; omega) | (simp; done) | (simp; omega)))) | ((with_reducible refine Below.setCell ?_ ?_ _); rotate_left; (focus (first | omega | (dsimp only; omega) | (simp; done) | (simp; omega)))) | ((with_reducible refine Below.step ?_ (by assumption) ?_); rotate_left; (focus (first | omega | (dsimp only; omega) | (simp; done) | (simp; omega))))))⟩
        case measure => simp [intOf]; omega
      · obtain rfl : k = s.xs.length := by omega
        go_wp2_with fail
        refine bodyPost_ret (v := .tuple #[.slice none 0 0, .nilIface]) ?_ rfl ⟨by rw [Hc.out]; rfl, by (repeat (first | with_reducible exact Below.refl _ _ | with_reducible assumption | (with_reducible refine Below.drew ?_) | (with_reducible refine Below.manyDrew ?_ _) | ((with_reducible refine Below.alloc ?_ ?_ _); rotate_left; (focus (first | omega | (dsimp only; omega) | (simp; done) | (simp; omega)))) | ((with_reducible refine Below.setCell ?_ ?_ _); rotate_left; (focus (first | omega | (dsimp only; omega) | (simp; done) | (simp; omega)))) | ((with_reducible refine Below.step ?_ (by assumption) ?_); rotate_left; (focus (first | omega | (dsimp only; omega) | (simp; done) | (simp; omega))))))⟩
        simp [results, Try.results20, go_sem]
  · have he := errV_ne hc
    have He := hid he
    clear he hc
    go_enter Try.func20, Try.ntmps20
    go_wp2_with ((go_at_call 33; refine (seq_any _ _).mono ?_; rintro e w' ⟨rfl, rfl⟩); rw [H0.out])
    refine (ccheck_any s _ (hs.stays (by (repeat (first | with_reducible exact Below.refl _ _ | with_reducible assumption | (with_reducible refine Below.drew ?_) | (with_reducible refine Below.manyDrew ?_ _) | ((with_reducible refine Below.alloc ?_ ?_ _); rotate_left; (focus (first | omega | (dsimp only; omega) | (simp; done) | (simp; omega)))) | ((with_reducible refine Below.setCell ?_ ?_ _); rotate_left; (focus (first | omega | (dsimp only; omega) | (simp; done) | (simp; omega)))) | ((with_reducible refine Below.step ?_ (by assumption) ?_); rotate_left; (focus (first | omega | (dsimp only; omega) | (simp; done) | (simp; omega))))))))).mono ?_; rintro e w1 ⟨rfl, hb1⟩; obtain ⟨hc1, hf1⟩ := bcell hb1; have hz1 := hb1.size; (try simp only [World.size_alloc] at hz1); (try simp only [World.size_setCell] at hz1)
    rw [He.out]
    go_wp2_with fail
    refine bodyPost_ret (v := .tuple #[.slice none 0 0, _]) ?_ rfl ⟨by rw [He.out], by (repeat (first | with_reducible exact Below.refl _ _ | with_reducible assumption | (with_reducible refine Below.drew ?_) | (with_reducible refine Below.manyDrew ?_ _) | ((with_reducible refine Below.alloc ?_ ?_ _); rotate_left; (focus (first | omega | (dsimp only; omega) | (simp; done) | (simp; omega)))) | ((with_reducible refine Below.setCell ?_ ?_ _); rotate_left; (focus (first | omega | (dsimp only; omega) | (simp; done) | (simp; omega)))) | ((with_reducible refine Below.step ?_ (by assumption) ?_); rotate_left; (focus (first | omega | (dsimp only; omega) | (simp; done) | (simp; omega))))))⟩
    simp [results, Try.results20, go_sem]
end Go.Proofs.Ytdocdmpfokdjkaa
