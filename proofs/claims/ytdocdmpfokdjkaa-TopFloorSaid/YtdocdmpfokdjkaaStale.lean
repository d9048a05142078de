/-
  CONTRACT of fresh.Stale at any floor. CONDITIONS: none.
-/
import Derived.Test.YtdocdmpfokdjkaaFresh
import Derived.Test.YtdocdmpfokdjkaaIKit
namespace Go.Proofs.Ytdocdmpfokdjkaa
open Go.RowKit
open Go.ChangeShapes Go.WideShapes Go.ChangeAt

/-- a list of numbers handed out, and an error -/
def IRes (w : World) (r : List Int × Int) (e : Ending) (w' : World) : Prop :=
  ∃ v, e = .returned (.tuple #[v, errV r.2]) ∧ Ow cellI 1 w.heap.size 3 w' v r.1 ∧ Below w.heap.size w w'
/-- keys that are stale -/
def staleL (f : Int) (l : List E) : List Int := (l.filter fun e => decide (e.asof < f)).map (·.key)
theorem staleL_snoc (f : Int) (l : List E) (e : E) : staleL f (l ++ [e]) = if e.asof < f then staleL f l ++ [e.key] else staleL f l := by
  unfold staleL
  by_cases h : e.asof < f
  · simp [List.filter_append, h]
  · simp [List.filter_append, h]
theorem staleL_len (f : Int) (l : List E) : (staleL f l).length ≤ l.length := by
  unfold staleL
  rw [List.length_map]
  exact List.length_filter_le _ _
def staleR (l : List E) (f : Int) : List Int × Int := if seqB f = true then (if chkC l = 0 then (staleL f l, 0) else ([], chkC l)) else ([], 1)

set_option maxHeartbeats 2000000 in
theorem stale_any (s : SlV E) (f : Int) (w : World) (hs : EntriesAt w s) :
    Calls Try.prog 20 #[.slice s.A s.xs.length s.c, .int .i64 f] w (IRes w (staleR s.xs f)) := by
  rcases hq : seqB f with _ | _
  · rw [staleR, hq, if_neg (by decide)]
    have Hq := hid hq
    clear hq
    go_enter Try.func20, Try.ntmps20
    go_wp2_with ((go_at_call 33; refine (seq_any _ _).mono ?_; rintro e w' ⟨rfl, rfl⟩); rw [Hq.out])
    go_ret2
    exact ⟨_, rfl, Ow.nil _ _ _ _ _, by (repeat (first | with_reducible exact Below.refl _ _ | with_reducible assumption | (with_reducible refine Below.drew ?_) | (with_reducible refine Below.manyDrew ?_ _) | ((with_reducible refine Below.alloc ?_ ?_ _); rotate_left; (focus (first | omega | (dsimp only; omega) | (simp; done) | (simp; omega)))) | ((with_reducible refine Below.setCell ?_ ?_ _); rotate_left; (focus (first | omega | (dsimp only; omega) | (simp; done) | (simp; omega)))) | ((with_reducible refine Below.step ?_ (by assumption) ?_); rotate_left; (focus (first | omega | (dsimp only; omega) | (simp; done) | (simp; omega))))))⟩
  · by_cases hc : chkC s.xs = 0
    · rw [staleR, if_pos hq, if_pos hc]
      obtain ⟨hn, _, _, _⟩ := chkC_ok hc
      have Hc := hid hc
      have Hq := hid hq
      clear hc hq
      go_enter Try.func20, Try.ntmps20
      go_wp2_with ((go_at_call 33; refine (seq_any _ _).mono ?_; rintro e w' ⟨rfl, rfl⟩); rw [Hq.out])
      refine (ccheck_any s _ (hs.stays (by (repeat (first | with_reducible exact Below.refl _ _ | with_reducible assumption | (with_reducible refine Below.drew ?_) | (with_reducible refine Below.manyDrew ?_ _) | ((with_reducible refine Below.alloc ?_ ?_ _); rotate_left; (focus (first | omega | (dsimp only; omega) | (simp; done) | (simp; omega)))) | ((with_reducible refine Below.setCell ?_ ?_ _); rotate_left; (focus (first | omega | (dsimp only; omega) | (simp; done) | (simp; omega)))) | ((with_reducible refine Below.step ?_ (by assumption) ?_); rotate_left; (focus (first | omega | (dsimp only; omega) | (simp; done) | (simp; omega))))))))).mono ?_; rintro e w1 ⟨rfl, hb1⟩; obtain ⟨hc1, hf1⟩ := bcell hb1; have hz1 := hb1.size; (try simp only [World.size_alloc] at hz1); (try simp only [World.size_setCell] at hz1)
      rw [Hc.out, show errV 0 = .nilIface from rfl]
      go_wp2_with fail
      go_loopw [7, 21] (fun o i wr => ∃ k : Nat, k ≤ s.xs.length ∧ i = .int .i64 k ∧ Ow cellI 1 w.heap.size 3 wr o (staleL f (s.xs.take k)) ∧ Below w.heap.size w wr) (fun _ i _ => s.xs.length - (intOf i).toNat)
      case atStart => exact ⟨0, Nat.zero_le _, rfl, Ow.nil _ _ _ _ _, by (repeat (first | with_reducible exact Below.refl _ _ | with_reducible assumption | (with_reducible refine Below.drew ?_) | (with_reducible refine Below.manyDrew ?_ _) | ((with_reducible refine Below.alloc ?_ ?_ _); rotate_left; (focus (first | omega | (dsimp only; omega) | (simp; done) | (simp; omega)))) | ((with_reducible refine Below.setCell ?_ ?_ _); rotate_left; (focus (first | omega | (dsimp only; omega) | (simp; done) | (simp; omega)))) | ((with_reducible refine Below.step ?_ (by assumption) ?_); rotate_left; (focus (first | omega | (dsimp only; omega) | (simp; done) | (simp; omega))))))⟩
      case round =>
        obtain ⟨k, hk, rfl, hOw, hbr⟩ := hrel
        have hz0 := hbr.size
        have HO := hid hOw
        have HGe := hid hOw.ge
        clear hOw
        by_cases hlt : k < s.xs.length
        · obtain ⟨g, off, hA, hg, hcells⟩ := hs.get (by omega)
          obtain ⟨k0, k1, k2, k3, k4⟩ := (hcells k hlt).stays hbr hg
          have hln : (staleL f (s.xs.take k)).length ≤ 8 := by
            have h1 := staleL_len f (s.xs.take k)
            have h2 : (s.xs.take k).length ≤ k := by rw [List.length_take]; omega
            omega
          have hsn := staleL_snoc f (s.xs.take k) (s.xs.getD k E.zero)
          rw [← take_snocD E.zero hlt] at hsn
          generalize s.xs.getD k E.zero = x at *
          generalize staleL f (s.xs.take k) = L at *
          obtain ⟨xk, xv, xa, xg, xt⟩ := x
          simp only at k0 k1 k2 k3 k4 hsn
          rw [hA]
          clear hA hcells
          by_cases hst : xa < f
          · rw [if_pos hst] at hsn
            have Hsn := hid hsn
            clear hsn
            go_wp2_with (at_builtin; refine appI _ w.heap.size _ L xk (HO.out.belowS (by (repeat (first | with_reducible exact Below.refl _ _ | with_reducible assumption | (with_reducible refine Below.drew ?_) | (with_reducible refine Below.manyDrew ?_ _) | ((with_reducible refine Below.alloc ?_ ?_ _); rotate_left; (focus (first | omega | (dsimp only; omega) | (simp; done) | (simp; omega)))) | ((with_reducible refine Below.setCell ?_ ?_ _); rotate_left; (focus (first | omega | (dsimp only; omega) | (simp; done) | (simp; omega)))) | ((with_reducible refine Below.step ?_ (by assumption) ?_); rotate_left; (focus (first | omega | (dsimp only; omega) | (simp; done) | (simp; omega)))))))) rfl _ _ rfl rfl rfl ?_ ?_ ?_ ?_)
            all_goals try (first | omega | (simp; done) | (simp; omega))
            intro v8 w8 h8 f8 o8
            have hb8 := (show Below w.heap.size w _ by (repeat (first | with_reducible exact Below.refl _ _ | with_reducible assumption | (with_reducible refine Below.drew ?_) | (with_reducible refine Below.manyDrew ?_ _) | ((with_reducible refine Below.alloc ?_ ?_ _); rotate_left; (focus (first | omega | (dsimp only; omega) | (simp; done) | (simp; omega)))) | ((with_reducible refine Below.setCell ?_ ?_ _); rotate_left; (focus (first | omega | (dsimp only; omega) | (simp; done) | (simp; omega)))) | ((with_reducible refine Below.step ?_ (by assumption) ?_); rotate_left; (focus (first | omega | (dsimp only; omega) | (simp; done) | (simp; omega))))))).trans (f8.below0 (B := w.heap.size) (by simp; omega) (fun i hi => by have := HGe.out _ hi; omega))
            go_wp2_with fail
            go_roundw
            case rel => exact ⟨k + 1, by omega, by go_num, by rw [Hsn.out]; exact h8, hb8⟩
            case measure => simp [intOf]; omega
          · rw [if_neg hst] at hsn
            have Hsn := hid hsn
            clear hsn
            go_wp2_with fail
            go_roundw
            case rel => exact ⟨k + 1, by omega, by go_num, by rw [Hsn.out]; exact HO.out.belowS (by (repeat (first | with_reducible exact Below.refl _ _ | with_reducible assumption | (with_reducible refine Below.drew ?_) | (with_reducible refine Below.manyDrew ?_ _) | ((with_reducible refine Below.alloc ?_ ?_ _); rotate_left; (focus (first | omega | (dsimp only; omega) | (simp; done) | (simp; omega)))) | ((with_reducible refine Below.setCell ?_ ?_ _); rotate_left; (focus (first | omega | (dsimp only; omega) | (simp; done) | (simp; omega)))) | ((with_reducible refine Below.step ?_ (by assumption) ?_); rotate_left; (focus (first | omega | (dsimp only; omega) | (simp; done) | (simp; omega))))))), by (repeat (first | with_reducible exact Below.refl _ _ | with_reducible assumption | (with_reducible refine Below.drew ?_) | (with_reducible refine Below.manyDrew ?_ _) | ((with_reducible refine Below.alloc ?_ ?_ _); rotate_left; (focus (first | omega | (dsimp only; omega) | (simp; done) | (simp; omega)))) | ((with_reducible refine Below.setCell ?_ ?_ _); rotate_left; (focus (first | omega | (dsimp only; omega) | (simp; done) | (simp; omega)))) | ((with_reducible refine Below.step ?_ (by assumption) ?_); rotate_left; (focus (first | omega | (dsimp only; omega) | (simp; done) | (simp; omega))))))⟩
            case measure => simp [intOf]; omega
        · obtain rfl : k = s.xs.length := by omega
          rw [List.take_length] at HO
          go_wp2_with fail
          go_ret2
          exact ⟨_, rfl, HO.out, hbr⟩
    · rw [staleR, if_pos hq, if_neg hc]
      have He := hid (errV_ne hc)
      have Hq := hid hq
      have HC := hid (fun W (hW : Below w.heap.size w W) => ccheck_any s W (hs.stays hW))
      generalize chkC s.xs = en at *
      clear hc hq hs
      go_enter Try.func20, Try.ntmps20
      go_wp2_with ((go_at_call 33; refine (seq_any _ _).mono ?_; rintro e w' ⟨rfl, rfl⟩); rw [Hq.out])
      refine (HC.out _ (by (repeat (first | with_reducible exact Below.refl _ _ | with_reducible assumption | (with_reducible refine Below.drew ?_) | (with_reducible refine Below.manyDrew ?_ _) | ((with_reducible refine Below.alloc ?_ ?_ _); rotate_left; (focus (first | omega | (dsimp only; omega) | (simp; done) | (simp; omega)))) | ((with_reducible refine Below.setCell ?_ ?_ _); rotate_left; (focus (first | omega | (dsimp only; omega) | (simp; done) | (simp; omega)))) | ((with_reducible refine Below.step ?_ (by assumption) ?_); rotate_left; (focus (first | omega | (dsimp only; omega) | (simp; done) | (simp; omega)))))))).mono ?_; rintro e w1 ⟨rfl, hb1⟩; obtain ⟨hc1, hf1⟩ := bcell hb1; have hz1 := hb1.size; (try simp only [World.size_alloc] at hz1); (try simp only [World.size_setCell] at hz1)
      rw [He.out]
      go_wp2_with fail
      refine bodyPost_ret (v := .tuple #[.slice none 0 0, .iface 69 (.int .i64 en)]) ?_ rfl ⟨_, by rw [He.out], Ow.nil _ _ _ _ _, by (repeat (first | with_reducible exact Below.refl _ _ | with_reducible assumption | (with_reducible refine Below.drew ?_) | (with_reducible refine Below.manyDrew ?_ _) | ((with_reducible refine Below.alloc ?_ ?_ _); rotate_left; (focus (first | omega | (dsimp only; omega) | (simp; done) | (simp; omega)))) | ((with_reducible refine Below.setCell ?_ ?_ _); rotate_left; (focus (first | omega | (dsimp only; omega) | (simp; done) | (simp; omega)))) | ((with_reducible refine Below.step ?_ (by assumption) ?_); rotate_left; (focus (first | omega | (dsimp only; omega) | (simp; done) | (simp; omega))))))⟩
      simp [results, Try.results20, go_sem]
end Go.Proofs.Ytdocdmpfokdjkaa
