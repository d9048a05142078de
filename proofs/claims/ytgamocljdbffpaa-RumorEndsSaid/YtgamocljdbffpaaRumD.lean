/-
  CONTRACTS: slices.Index, slices.Contains at rumors; rumor.Pick. CONDITIONS: none.
-/
import Derived.Test.YtgamocljdbffpaaRumC
import Derived.Deep.CutBlock
import Derived.Deep.DeepCutAuto
namespace Go.Proofs.Ytgamocljdbffpaa
open Go.RowKit
open Go.ChangeShapes Go.WideShapes Go.ChangeAt

theorem eqbU_comm (x y : U) : eqbU x y = eqbU y x := by
  rw [Bool.eq_iff_iff, eqbU_iff, eqbU_iff]
  exact ⟨fun h => h.symm, fun h => h.symm⟩
def anyU (l : List U) (x : U) : Bool := l.any fun y => eqbU y x
/-- where it is found: 0 or more, just if it is among them -/
def IdxU (l : List U) (x : U) (w : World) (e : Ending) (w' : World) : Prop := ∃ r : Int, e = .returned (.int .i64 r) ∧ (-1 ≤ r ∧ r ≤ 1000) ∧ decide (0 ≤ r) = anyU l x ∧ Below w.heap.size w w'
set_option maxHeartbeats 2000000 in
theorem uindex_any (s : SlV U) (x0 x1 x2 x3 : Int) (w : World) (hs : UsAt w s) (hn : s.xs.length ≤ 1000) :
    Calls Try.prog 27 #[.slice s.A s.xs.length s.c, .agg #[.int .i64 x0, .int .i64 x1, .int .i64 x2, .int .i64 x3]] w (IdxU s.xs ⟨x0, x1, x2, x3⟩ w) := by
  have hlen := hs.len
  unfold maxLen at hlen
  have HX := hid (Blk.new w 39 #[.int .i64 x0, .int .i64 x1, .int .i64 x2, .int .i64 x3])
  go_enter Try.func27, Try.ntmps27
  go_wp2_with fail
  obtain ⟨w0, hw0⟩ : ∃ w0 : World, w0 = w.alloc (.cells #[.int .i64 x0, .int .i64 x1, .int .i64 x2, .int .i64 x3] 39) := ⟨_, rfl⟩
  rw [← hw0] at HX ⊢
  have HB0 := hid (show Below w.heap.size w w0 by rw [hw0]; (repeat (first | with_reducible exact Below.refl _ _ | with_reducible assumption | (with_reducible refine Below.drew ?_) | (with_reducible refine Below.manyDrew ?_ _) | ((with_reducible refine Below.alloc ?_ ?_ _); rotate_left; (focus (first | omega | (dsimp only; omega) | (simp; done) | (simp; omega)))) | ((with_reducible refine Below.setCell ?_ ?_ _); rotate_left; (focus (first | omega | (dsimp only; omega) | (simp; done) | (simp; omega)))) | ((with_reducible refine Below.step ?_ (by assumption) ?_); rotate_left; (focus (first | omega | (dsimp only; omega) | (simp; done) | (simp; omega)))))))
  have hz0 := HB0.out.size
  clear hw0
  go_loopw [8] (fun i wr => ∃ k : Nat, k ≤ s.xs.length ∧ i = .int .i64 k ∧ (∀ j, j < k → eqbU (s.xs.getD j U.zero) ⟨x0, x1, x2, x3⟩ = false) ∧ Below w0.heap.size w0 wr) (fun i _ => s.xs.length - (intOf i).toNat)
  case atStart => exact ⟨0, Nat.zero_le _, rfl, (fun j hj => by omega), Below.refl _ _⟩
  case round =>
    obtain ⟨k, hk, rfl, hall, hbr⟩ := hrel
    have Hall := hid hall
    clear hall
    have Hbr := hid (Below.step HB0.out hbr hz0)
    by_cases hlt : k < s.xs.length
    · obtain ⟨g, off, hA, hgl, hcells⟩ := (hs.stays Hbr.out).row (by omega)
      obtain ⟨k0, k1, k2, k3⟩ := hcells k hlt
      have hX := HX.out.belowS hbr
      have d0 := hX.cell 0
      have d1 := hX.cell 1
      have d2 := hX.cell 2
      have d3 := hX.cell 3
      simp at d0 d1 d2 d3
      obtain ⟨y, hy⟩ : ∃ y, s.xs.getD k U.zero = y := ⟨_, rfl⟩
      rw [hy] at k0 k1 k2 k3
      have Hy := hid hy
      obtain ⟨y0, y1, y2, y3⟩ := y
      simp only at k0 k1 k2 k3
      have heq := fun W => eqRunU x0 x1 x2 x3 y0 y1 y2 y3 W
      have hk0 : (0 : Int) ≤ (k : Int) := by omega
      have hk1 : (k : Int) < (s.xs.length : Int) := by omega
      rw [hA]
      clear hA hcells hX hy
      rcases hq : eqbU ⟨x0, x1, x2, x3⟩ ⟨y0, y1, y2, y3⟩ with _ | _
      · rw [hq] at heq
        have Hq := hid hq
        clear hq
        go_wp2_with fail
        go_quiet (fail)
        go_wp2_with fail
        go_roundw
        case rel =>
          refine ⟨k + 1, by omega, by go_num, fun j hj => ?_, Below.manyDrew hbr _⟩
          by_cases hjk : j < k
          · exact Hall.out j hjk
          · obtain rfl : j = k := by omega
            rw [Hy.out, eqbU_comm]; exact Hq.out
        case measure => simp [intOf]; omega
      · rw [hq] at heq
        have Hq := hid hq
        clear hq
        go_wp2_with fail
        go_quiet (fail)
        go_wp2_with fail
        go_ret
        refine ⟨k, rfl, by omega, ?_, Below.manyDrew Hbr.out _⟩
        rw [decide_eq_true (by omega)]
        symm
        unfold anyU
        rw [List.any_eq_true]
        exact ⟨_, getD_memD U.zero hlt, by rw [Hy.out, eqbU_comm]; exact Hq.out⟩
    · obtain rfl : k = s.xs.length := by omega
      go_wp2_with fail
      go_ret
      refine ⟨-1, rfl, by omega, ?_, Hbr.out⟩
      rw [decide_eq_false (by omega)]
      symm
      unfold anyU
      rw [List.any_eq_false]
      intro y hy
      obtain ⟨i, hi, rfl⟩ := List.getElem_of_mem hy
      have := Hall.out i hi
      rw [getD_get _ hi] at this
      rw [this]
      decide
theorem ucontains_any (s : SlV U) (x0 x1 x2 x3 : Int) (w : World) (hs : UsAt w s) (hn : s.xs.length ≤ 1000) :
    Calls Try.prog 19 #[.slice s.A s.xs.length s.c, .agg #[.int .i64 x0, .int .i64 x1, .int .i64 x2, .int .i64 x3]] w fun e w' => e = .returned (.bool (anyU s.xs ⟨x0, x1, x2, x3⟩)) ∧ Below w.heap.size w w' := by
  have HI := hid (fun W (hW : Below w.heap.size w W) => uindex_any s x0 x1 x2 x3 W (hs.stays hW) hn)
  clear hs
  go_enter Try.func19, Try.ntmps19
  go_wp2_with fail
  refine (HI.out _ (by (repeat (first | with_reducible exact Below.refl _ _ | with_reducible assumption | (with_reducible refine Below.drew ?_) | (with_reducible refine Below.manyDrew ?_ _) | ((with_reducible refine Below.alloc ?_ ?_ _); rotate_left; (focus (first | omega | (dsimp only; omega) | (simp; done) | (simp; omega)))) | ((with_reducible refine Below.setCell ?_ ?_ _); rotate_left; (focus (first | omega | (dsimp only; omega) | (simp; done) | (simp; omega)))) | ((with_reducible refine Below.step ?_ (by assumption) ?_); rotate_left; (focus (first | omega | (dsimp only; omega) | (simp; done) | (simp; omega)))))))).mono ?_
  rintro e w1 ⟨r, rfl, ⟨h1, h2⟩, hr, hb1⟩
  have Hr := hid hr
  have Hb1 := hid (Below.step (show Below w.heap.size w (w.alloc _) by (repeat (first | with_reducible exact Below.refl _ _ | with_reducible assumption | (with_reducible refine Below.drew ?_) | (with_reducible refine Below.manyDrew ?_ _) | ((with_reducible refine Below.alloc ?_ ?_ _); rotate_left; (focus (first | omega | (dsimp only; omega) | (simp; done) | (simp; omega)))) | ((with_reducible refine Below.setCell ?_ ?_ _); rotate_left; (focus (first | omega | (dsimp only; omega) | (simp; done) | (simp; omega)))) | ((with_reducible refine Below.step ?_ (by assumption) ?_); rotate_left; (focus (first | omega | (dsimp only; omega) | (simp; done) | (simp; omega))))))) hb1 (by simp))
  clear hr hb1
  rcases Decidable.em (0 ≤ r) with h | h
  all_goals
    go_wp2_with fail
    go_ret
    exact ⟨ret_b (by rw [← Hr.out]; try simp [h]), Hb1.out⟩
end Go.Proofs.Ytgamocljdbffpaa
