/-
  CONTRACTS: view.Newer, view.check, slices.BinarySearchFunc and slices.Clone at members. CONDITIONS: none.
-/
import Derived.Test.YtgamocljdbffpaaDoorView1
namespace Go.Proofs.YtgamocljdbffpaaDoor
open Go.RowKit
open Go.ChangeShapes Go.WideShapes Go.ChangeAt

def newerR (a b : M) : Bool × Int := if rightB a = true then (if rightB b = true then (if a.node = b.node then (aboveB a b, 0) else (false, 3)) else (false, 1)) else (false, 1)
set_option maxHeartbeats 2000000 in
theorem newer_any (x0 x1 x2 y0 y1 y2 : Int) (w : World) : Calls Tryd.prog 19 #[.agg #[.int .i64 x0, .int .i64 x1, .int .i64 x2], .agg #[.int .i64 y0, .int .i64 y1, .int .i64 y2]] w fun e w' => e = .returned (.tuple #[.bool (newerR ⟨x0, x1, x2⟩ ⟨y0, y1, y2⟩).1, errV (newerR ⟨x0, x1, x2⟩ ⟨y0, y1, y2⟩).2]) ∧ Below w.heap.size w w' := by
  have HX := hid (Blk.new w 52 #[.int .i64 x0, .int .i64 x1, .int .i64 x2])
  have HY := hid (Blk.new (w.alloc (.cells #[.int .i64 x0, .int .i64 x1, .int .i64 x2] 52)) 52 #[.int .i64 y0, .int .i64 y1, .int .i64 y2])
  have HR1 := hid (right_any x0 x1 x2)
  have HR2 := hid (right_any y0 y1 y2)
  generalize hN : newerR ⟨x0, x1, x2⟩ ⟨y0, y1, y2⟩ = N
  unfold newerR at hN
  rw [World.size_alloc] at HY
  by_cases h1 : rightB ⟨x0, x1, x2⟩ = true
  · rw [h1] at HR1
    rw [if_pos h1] at hN
    by_cases h2 : rightB ⟨y0, y1, y2⟩ = true
    · rw [h2] at HR2
      rw [if_pos h2] at hN
      clear h1 h2
      by_cases h3 : x0 = y0
      · rw [if_pos h3] at hN
        subst hN
        subst h3
        go_enter Tryd.func19, Tryd.ntmps19
        go_wp2_with fail
        refine (HR1.out _).mono ?_
        rintro e w1 ⟨rfl, hb1⟩
        have hy1 := HY.out.belowS hb1
        have hx1 := (HX.out.alloc (.cells #[.int .i64 x0, .int .i64 y1, .int .i64 y2] 52)).belowS hb1
        have hz1 := hb1.size
        rw [World.size_alloc, World.size_alloc] at hz1
        have d0 : w1.cell? ⟨w.heap.size + 1, 0, none⟩ = some (.int .i64 x0) := hy1.cell 0
        have d1 : w1.cell? ⟨w.heap.size + 1, 1, none⟩ = some (.int .i64 y1) := hy1.cell 1
        have d2 : w1.cell? ⟨w.heap.size + 1, 2, none⟩ = some (.int .i64 y2) := hy1.cell 2
        go_wp2_with fail
        refine (HR2.out _).mono ?_
        rintro e w2 ⟨rfl, hb2⟩
        have hy2 := hy1.belowS hb2
        have hx2 := hx1.belowS hb2
        have hz2 := hb2.size
        clear d0 d1 d2
        have d0 : w2.cell? ⟨w.heap.size + 1, 0, none⟩ = some (.int .i64 x0) := hy2.cell 0
        have d1 : w2.cell? ⟨w.heap.size + 1, 1, none⟩ = some (.int .i64 y1) := hy2.cell 1
        have d2 : w2.cell? ⟨w.heap.size + 1, 2, none⟩ = some (.int .i64 y2) := hy2.cell 2
        have e0 : w2.cell? ⟨w.heap.size, 0, none⟩ = some (.int .i64 x0) := hx2.cell 0
        have e1 : w2.cell? ⟨w.heap.size, 1, none⟩ = some (.int .i64 x1) := hx2.cell 1
        have e2 : w2.cell? ⟨w.heap.size, 2, none⟩ = some (.int .i64 x2) := hx2.cell 2
        clear hx1 hx2 hy1 hy2
        go_wp2_with fail
        refine (above_any x0 x1 x2 x0 y1 y2 w2).mono ?_
        rintro e w3 ⟨rfl, hb3⟩
        go_wp2_with fail
        go_ret2
        exact ⟨rfl, by (repeat (first | with_reducible exact Below.refl _ _ | with_reducible assumption | (with_reducible refine Below.drew ?_) | (with_reducible refine Below.manyDrew ?_ _) | ((with_reducible refine Below.alloc ?_ ?_ _); rotate_left; (focus (first | omega | (dsimp only; omega) | (simp; done) | (simp; omega)))) | ((with_reducible refine Below.setCell ?_ ?_ _); rotate_left; (focus (first | omega | (dsimp only; omega) | (simp; done) | (simp; omega)))) | ((with_reducible refine Below.step ?_ (by assumption) ?_); rotate_left; (focus (first | omega | (dsimp only; omega) | (simp; done) | (simp; omega))))))⟩
      · rw [if_neg h3] at hN
        subst hN
        have h3b : (x0 == y0) = false := by rw [beq_eq_false_iff_ne]; exact h3
        clear h3
        go_enter Tryd.func19, Tryd.ntmps19
        go_wp2_with fail
        refine (HR1.out _).mono ?_
        rintro e w1 ⟨rfl, hb1⟩
        have hy1 := HY.out.belowS hb1
        have hx1 := (HX.out.alloc (.cells #[.int .i64 y0, .int .i64 y1, .int .i64 y2] 52)).belowS hb1
        have hz1 := hb1.size
        rw [World.size_alloc, World.size_alloc] at hz1
        have d0 : w1.cell? ⟨w.heap.size + 1, 0, none⟩ = some (.int .i64 y0) := hy1.cell 0
        have d1 : w1.cell? ⟨w.heap.size + 1, 1, none⟩ = some (.int .i64 y1) := hy1.cell 1
        have d2 : w1.cell? ⟨w.heap.size + 1, 2, none⟩ = some (.int .i64 y2) := hy1.cell 2
        go_wp2_with fail
        refine (HR2.out _).mono ?_
        rintro e w2 ⟨rfl, hb2⟩
        have hy2 := hy1.belowS hb2
        have hx2 := hx1.belowS hb2
        have hz2 := hb2.size
        clear d0 d1 d2
        have d0 : w2.cell? ⟨w.heap.size + 1, 0, none⟩ = some (.int .i64 y0) := hy2.cell 0
        have e0 : w2.cell? ⟨w.heap.size, 0, none⟩ = some (.int .i64 x0) := hx2.cell 0
        clear hx1 hx2 hy1 hy2
        go_wp2_with fail
        go_ret2
        exact ⟨rfl, by (repeat (first | with_reducible exact Below.refl _ _ | with_reducible assumption | (with_reducible refine Below.drew ?_) | (with_reducible refine Below.manyDrew ?_ _) | ((with_reducible refine Below.alloc ?_ ?_ _); rotate_left; (focus (first | omega | (dsimp only; omega) | (simp; done) | (simp; omega)))) | ((with_reducible refine Below.setCell ?_ ?_ _); rotate_left; (focus (first | omega | (dsimp only; omega) | (simp; done) | (simp; omega)))) | ((with_reducible refine Below.step ?_ (by assumption) ?_); rotate_left; (focus (first | omega | (dsimp only; omega) | (simp; done) | (simp; omega))))))⟩
    · have h2' : rightB ⟨y0, y1, y2⟩ = false := by simpa using h2
      rw [h2'] at HR2
      rw [if_neg h2] at hN
      subst hN
      clear h1 h2 h2'
      go_enter Tryd.func19, Tryd.ntmps19
      go_wp2_with fail
      refine (HR1.out _).mono ?_
      rintro e w1 ⟨rfl, hb1⟩
      have hy1 := HY.out.belowS hb1
      have hz1 := hb1.size
      rw [World.size_alloc, World.size_alloc] at hz1
      have d0 : w1.cell? ⟨w.heap.size + 1, 0, none⟩ = some (.int .i64 y0) := hy1.cell 0
      have d1 : w1.cell? ⟨w.heap.size + 1, 1, none⟩ = some (.int .i64 y1) := hy1.cell 1
      have d2 : w1.cell? ⟨w.heap.size + 1, 2, none⟩ = some (.int .i64 y2) := hy1.cell 2
      clear hy1
      go_wp2_with fail
      refine (HR2.out _).mono ?_
      rintro e w2 ⟨rfl, hb2⟩
      go_wp2_with fail
      go_ret2
      exact ⟨rfl, by (repeat (first | with_reducible exact Below.refl _ _ | with_reducible assumption | (with_reducible refine Below.drew ?_) | (with_reducible refine Below.manyDrew ?_ _) | ((with_reducible refine Below.alloc ?_ ?_ _); rotate_left; (focus (first | omega | (dsimp only; omega) | (simp; done) | (simp; omega)))) | ((with_reducible refine Below.setCell ?_ ?_ _); rotate_left; (focus (first | omega | (dsimp only; omega) | (simp; done) | (simp; omega)))) | ((with_reducible refine Below.step ?_ (by assumption) ?_); rotate_left; (focus (first | omega | (dsimp only; omega) | (simp; done) | (simp; omega))))))⟩
  · have h1' : rightB ⟨x0, x1, x2⟩ = false := by simpa using h1
    rw [h1'] at HR1
    rw [if_neg h1] at hN
    subst hN
    clear h1 h1'
    go_enter Tryd.func19, Tryd.ntmps19
    go_wp2_with fail
    refine (HR1.out _).mono ?_
    rintro e w1 ⟨rfl, hb1⟩
    go_wp2_with fail
    go_ret2
    exact ⟨rfl, by (repeat (first | with_reducible exact Below.refl _ _ | with_reducible assumption | (with_reducible refine Below.drew ?_) | (with_reducible refine Below.manyDrew ?_ _) | ((with_reducible refine Below.alloc ?_ ?_ _); rotate_left; (focus (first | omega | (dsimp only; omega) | (simp; done) | (simp; omega)))) | ((with_reducible refine Below.setCell ?_ ?_ _); rotate_left; (focus (first | omega | (dsimp only; omega) | (simp; done) | (simp; omega)))) | ((with_reducible refine Below.step ?_ (by assumption) ?_); rotate_left; (focus (first | omega | (dsimp only; omega) | (simp; done) | (simp; omega))))))⟩

set_option maxHeartbeats 2000000 in
theorem vcheck_any (s : SlV M) (w : World) (hs : MsAt w s) :
    Calls Tryd.prog 42 #[.slice s.A s.xs.length s.c] w fun e w' => e = .returned (errV (chkV s.xs)) ∧ Below w.heap.size w w' := by
  have hlen := hs.len
  unfold maxLen at hlen
  by_cases h8 : 6 < s.xs.length
  · have h8' : (6 : Int) < (s.xs.length : Int) := by omega
    rw [chkV, if_pos h8]
    go_enter Tryd.func42, Tryd.ntmps42
    go_wp2_with fail
    go_ret
    exact ⟨rfl, by (repeat (first | with_reducible exact Below.refl _ _ | with_reducible assumption | (with_reducible refine Below.drew ?_) | (with_reducible refine Below.manyDrew ?_ _) | ((with_reducible refine Below.alloc ?_ ?_ _); rotate_left; (focus (first | omega | (dsimp only; omega) | (simp; done) | (simp; omega)))) | ((with_reducible refine Below.setCell ?_ ?_ _); rotate_left; (focus (first | omega | (dsimp only; omega) | (simp; done) | (simp; omega)))) | ((with_reducible refine Below.step ?_ (by assumption) ?_); rotate_left; (focus (first | omega | (dsimp only; omega) | (simp; done) | (simp; omega))))))⟩
  · have h8' : ¬ (6 : Int) < (s.xs.length : Int) := by omega
    generalize hr : chkV s.xs = r
    rw [chkV, if_neg h8] at hr
    have Hr := hid hr
    clear hr
    go_enter Tryd.func42, Tryd.ntmps42
    go_wp2_with fail
    go_loopw [11] (fun i wr => ∃ k : Nat, k ≤ s.xs.length ∧ i = .int .i64 k ∧ chkVs (if k = 0 then none else some (s.xs.getD (k - 1) M.zero).node) (s.xs.drop k) = r ∧ Below w.heap.size w wr) (fun i _ => s.xs.length - (intOf i).toNat)
    case atStart => exact ⟨0, Nat.zero_le _, rfl, Hr.out, Below.refl _ _⟩
    case round =>
      obtain ⟨k, hk, rfl, hkr, hbr⟩ := hrel
      have hz0 := hbr.size
      by_cases hlt : k < s.xs.length
      · obtain ⟨g, off, hA, hg, hcells⟩ := hs.row (by omega)
        obtain ⟨k0, k1, k2⟩ := (hcells k hlt).stays hbr hg
        have hd := drop_consD M.zero hlt
        rw [hd, chkVs] at hkr
        rcases k with _ | j
        · rw [if_pos rfl] at hkr
          rw [Nat.zero_mul, Nat.add_zero] at k0 k1 k2
          rw [Nat.zero_add] at hd hkr
          obtain ⟨x, hx⟩ : ∃ x, s.xs.getD 0 M.zero = x := ⟨_, rfl⟩
          rw [hx] at hkr k0 k1 k2
          have Hx := hid hx
          clear hx
          obtain ⟨x0, x1, x2⟩ := x
          simp only at k0 k1 k2
          have Hkr := hid hkr
          rw [hA]
          clear hA hkr hcells hd
          go_wp2_with fail
          refine (right_any x0 x1 x2 _).mono ?_
          rcases hc : rightB ⟨x0, x1, x2⟩ with _ | _
          · rintro e w1 ⟨rfl, hb1⟩
            have hcr : (1 : Int) = r := by rw [← Hkr.out, hc, if_neg (by decide)]
            subst hcr
            clear Hkr hc
            go_wp2_with fail
            go_ret
            exact ⟨rfl, by (repeat (first | with_reducible exact Below.refl _ _ | with_reducible assumption | (with_reducible refine Below.drew ?_) | (with_reducible refine Below.manyDrew ?_ _) | ((with_reducible refine Below.alloc ?_ ?_ _); rotate_left; (focus (first | omega | (dsimp only; omega) | (simp; done) | (simp; omega)))) | ((with_reducible refine Below.setCell ?_ ?_ _); rotate_left; (focus (first | omega | (dsimp only; omega) | (simp; done) | (simp; omega)))) | ((with_reducible refine Below.step ?_ (by assumption) ?_); rotate_left; (focus (first | omega | (dsimp only; omega) | (simp; done) | (simp; omega))))))⟩
          · rintro e w1 ⟨rfl, hb1⟩
            have e0 : w1.cell? ⟨wr.heap.size, 0, none⟩ = some (.int .i64 x0) := ((Blk.new wr 52 #[.int .i64 x0, .int .i64 x1, .int .i64 x2]).belowS hb1).cell 0
            have hl1 : wr.heap.size < w1.heap.size := ((Blk.new wr 52 #[.int .i64 x0, .int .i64 x1, .int .i64 x2]).belowS hb1).lt
            have Hkr2 := hid ((if_pos hc).symm.trans Hkr.out)
            clear Hkr hc
            go_wp2_with fail
            go_quiet (fail)
            go_wp2_with fail
            go_roundw
            case rel => exact ⟨1, by omega, by go_num, by show chkVs (some (s.xs.getD 0 M.zero).node) _ = _; rw [Hx.out]; exact Hkr2.out, by (repeat (first | with_reducible exact Below.refl _ _ | with_reducible assumption | (with_reducible refine Below.drew ?_) | (with_reducible refine Below.manyDrew ?_ _) | ((with_reducible refine Below.alloc ?_ ?_ _); rotate_left; (focus (first | omega | (dsimp only; omega) | (simp; done) | (simp; omega)))) | ((with_reducible refine Below.setCell ?_ ?_ _); rotate_left; (focus (first | omega | (dsimp only; omega) | (simp; done) | (simp; omega)))) | ((with_reducible refine Below.step ?_ (by assumption) ?_); rotate_left; (focus (first | omega | (dsimp only; omega) | (simp; done) | (simp; omega))))))⟩
            case measure => simp [intOf]; omega
        · have hq := ((hcells j (by omega)).stays hbr hg).c0
          rw [if_neg (Nat.succ_ne_zero j), Nat.add_sub_cancel] at hkr
          generalize s.xs.getD j M.zero = y at *
          obtain ⟨x, hx⟩ : ∃ x, s.xs.getD (j + 1) M.zero = x := ⟨_, rfl⟩
          rw [hx] at hkr k0 k1 k2
          have Hx := hid hx
          clear hx
          obtain ⟨x0, x1, x2⟩ := x
          simp only at k0 k1 k2
          have Hkr := hid hkr
          rw [hA]
          clear hA hkr hcells hd
          go_wp2_with fail
          refine (right_any x0 x1 x2 _).mono ?_
          rcases hc : rightB ⟨x0, x1, x2⟩ with _ | _
          · rintro e w1 ⟨rfl, hb1⟩
            have hcr : (1 : Int) = r := by rw [← Hkr.out, hc, if_neg (by decide)]
            subst hcr
            clear Hkr hc
            go_wp2_with fail
            go_ret
            exact ⟨rfl, by (repeat (first | with_reducible exact Below.refl _ _ | with_reducible assumption | (with_reducible refine Below.drew ?_) | (with_reducible refine Below.manyDrew ?_ _) | ((with_reducible refine Below.alloc ?_ ?_ _); rotate_left; (focus (first | omega | (dsimp only; omega) | (simp; done) | (simp; omega)))) | ((with_reducible refine Below.setCell ?_ ?_ _); rotate_left; (focus (first | omega | (dsimp only; omega) | (simp; done) | (simp; omega)))) | ((with_reducible refine Below.step ?_ (by assumption) ?_); rotate_left; (focus (first | omega | (dsimp only; omega) | (simp; done) | (simp; omega))))))⟩
          · rintro e w1 ⟨rfl, hb1⟩
            have e0 : w1.cell? ⟨wr.heap.size, 0, none⟩ = some (.int .i64 x0) := ((Blk.new wr 52 #[.int .i64 x0, .int .i64 x1, .int .i64 x2]).belowS hb1).cell 0
            have hl1 : wr.heap.size < w1.heap.size := ((Blk.new wr 52 #[.int .i64 x0, .int .i64 x1, .int .i64 x2]).belowS hb1).lt
            replace hq := (hb1.cell (p := ⟨g, _, none⟩) (by simp; omega)).trans ((((Below.refl wr.heap.size wr).alloc (Nat.le_refl _) _).cell (p := ⟨g, _, none⟩) (by dsimp only; omega)).trans hq)
            have Hkr2 := hid ((if_pos hc).symm.trans Hkr.out)
            clear Hkr hc
            by_cases hle : x0 ≤ y.node
            · have hr3 : (3 : Int) = r := by rw [← Hkr2.out, vlow]; simp [hle]
              subst hr3
              clear Hkr2
              go_wp2_with fail
              go_quiet (fail)
              go_wp2_with fail
              go_ret
              exact ⟨rfl, by (repeat (first | with_reducible exact Below.refl _ _ | with_reducible assumption | (with_reducible refine Below.drew ?_) | (with_reducible refine Below.manyDrew ?_ _) | ((with_reducible refine Below.alloc ?_ ?_ _); rotate_left; (focus (first | omega | (dsimp only; omega) | (simp; done) | (simp; omega)))) | ((with_reducible refine Below.setCell ?_ ?_ _); rotate_left; (focus (first | omega | (dsimp only; omega) | (simp; done) | (simp; omega)))) | ((with_reducible refine Below.step ?_ (by assumption) ?_); rotate_left; (focus (first | omega | (dsimp only; omega) | (simp; done) | (simp; omega))))))⟩
            · have Hkr3 := hid ((if_neg (show ¬ vlow (some y.node) x0 = true by simp [vlow]; omega)).symm.trans Hkr2.out)
              clear Hkr2
              go_wp2_with fail
              go_quiet (fail)
              go_wp2_with fail
              go_roundw
              case rel => exact ⟨j + 1 + 1, by omega, by go_num, by show chkVs (some (s.xs.getD (j + 1) M.zero).node) _ = _; rw [Hx.out]; exact Hkr3.out, by (repeat (first | with_reducible exact Below.refl _ _ | with_reducible assumption | (with_reducible refine Below.drew ?_) | (with_reducible refine Below.manyDrew ?_ _) | ((with_reducible refine Below.alloc ?_ ?_ _); rotate_left; (focus (first | omega | (dsimp only; omega) | (simp; done) | (simp; omega)))) | ((with_reducible refine Below.setCell ?_ ?_ _); rotate_left; (focus (first | omega | (dsimp only; omega) | (simp; done) | (simp; omega)))) | ((with_reducible refine Below.step ?_ (by assumption) ?_); rotate_left; (focus (first | omega | (dsimp only; omega) | (simp; done) | (simp; omega))))))⟩
              case measure => simp [intOf]; omega
      · obtain rfl : k = s.xs.length := by omega
        have hr0 : (0 : Int) = r := by
          rw [List.drop_length] at hkr
          exact hkr
        subst hr0
        clear hkr
        go_wp2_with fail
        go_ret
        exact ⟨rfl, by (repeat (first | with_reducible exact Below.refl _ _ | with_reducible assumption | (with_reducible refine Below.drew ?_) | (with_reducible refine Below.manyDrew ?_ _) | ((with_reducible refine Below.alloc ?_ ?_ _); rotate_left; (focus (first | omega | (dsimp only; omega) | (simp; done) | (simp; omega)))) | ((with_reducible refine Below.setCell ?_ ?_ _); rotate_left; (focus (first | omega | (dsimp only; omega) | (simp; done) | (simp; omega)))) | ((with_reducible refine Below.step ?_ (by assumption) ?_); rotate_left; (focus (first | omega | (dsimp only; omega) | (simp; done) | (simp; omega))))))⟩

theorem vplace1_any (k v a : Int) (x : Int) (w : World) (h0 : 0 ≤ k ∧ k < 6) (h1 : 0 ≤ x ∧ x < 6) :
    Calls Tryd.prog 63 #[.agg #[.int .i64 k, .int .i64 v, .int .i64 a], .int .i64 x] w fun e w' => e = .returned (.int .i64 (k - x)) ∧ Below w.heap.size w w' := by
  obtain ⟨h0a, h0b⟩ := h0
  obtain ⟨h1a, h1b⟩ := h1
  go_enter Tryd.func63, Tryd.ntmps63
  go_wp2_with fail
  go_ret
  refine ⟨ret_i ?_, by (repeat (first | with_reducible exact Below.refl _ _ | with_reducible assumption | (with_reducible refine Below.drew ?_) | (with_reducible refine Below.manyDrew ?_ _) | ((with_reducible refine Below.alloc ?_ ?_ _); rotate_left; (focus (first | omega | (dsimp only; omega) | (simp; done) | (simp; omega)))) | ((with_reducible refine Below.setCell ?_ ?_ _); rotate_left; (focus (first | omega | (dsimp only; omega) | (simp; done) | (simp; omega)))) | ((with_reducible refine Below.step ?_ (by assumption) ?_); rotate_left; (focus (first | omega | (dsimp only; omega) | (simp; done) | (simp; omega))))))⟩
  first | rfl | (unfold wrap64; omega)

set_option maxHeartbeats 2000000 in
theorem vbsf_any (k : Int) (s : SlV M) (w : World) (hs : MsAt w s) (hS : VSorted s.xs) (hK : VIn s.xs) (hk : 0 ≤ k ∧ k < 6) (hn : s.xs.length ≤ 6) :
    Calls Tryd.prog 62 #[.slice s.A s.xs.length s.c, .int .i64 k, .func (.func 63) #[] #[]] w fun e w' => e = .returned (.tuple #[.int .i64 (vplc k s.xs), .bool (vhas k s.xs)]) ∧ Below w.heap.size w w' := by
  go_enter Tryd.func62, Tryd.ntmps62
  go_wp2_with fail
  go_loopw [9, 10] (fun i j wr => ∃ a b : Nat, a ≤ b ∧ b ≤ s.xs.length ∧ i = .int .i64 a ∧ j = .int .i64 b ∧ (∀ t, t < a → (s.xs.getD t M.zero).node < k) ∧ (∀ t, b ≤ t → t < s.xs.length → k ≤ (s.xs.getD t M.zero).node) ∧ Below w.heap.size w wr) (fun i j _ => (intOf j).toNat - (intOf i).toNat)
  case atStart => exact ⟨0, s.xs.length, by omega, by omega, rfl, rfl, by omega, by omega, Below.refl _ _⟩
  case round =>
    obtain ⟨a, b, hab, hbl, rfl, rfl, hlo, hhi, hbr⟩ := hrel
    by_cases hlt : a < b
    · obtain ⟨g, off, hA, hg, hcells⟩ := hs.row (by omega)
      obtain ⟨k0, k1, k2⟩ := (hcells ((a + b) / 2) (by omega)).stays hbr hg
      have hkk := hK ((a + b) / 2) (by omega)
      have hlo2 : ∀ t, t < (a + b) / 2 + 1 → (s.xs.getD ((a + b) / 2) M.zero).node < k → (s.xs.getD t M.zero).node < k := fun t ht hx => by
        by_cases htm : t = (a + b) / 2
        · rw [htm]; exact hx
        · have := hS t ((a + b) / 2) (by omega) (by omega)
          omega
      have hhi2 : ∀ t, (a + b) / 2 ≤ t → t < s.xs.length → k ≤ (s.xs.getD ((a + b) / 2) M.zero).node → k ≤ (s.xs.getD t M.zero).node := fun t ht htl hx => by
        by_cases htm : t = (a + b) / 2
        · rw [htm]; exact hx
        · have := hS ((a + b) / 2) t (by omega) (by omega)
          omega
      have Hlo2 := hid hlo2
      have Hhi2 := hid hhi2
      have Hlo := hid hlo
      have Hhi := hid hhi
      clear hlo2 hhi2 hlo hhi hcells hS hK
      generalize s.xs.getD ((a + b) / 2) M.zero = x at *
      obtain ⟨xk, xv, xa⟩ := x
      simp only at k0 k1 k2 hkk Hlo2 Hhi2
      rw [hA]
      clear hA
      obtain ⟨hk0, hk8⟩ := hk
      have hz0 := hbr.size
      go_wp2_with fail
      refine (vplace1_any xk xv xa k _ hkk ⟨hk0, hk8⟩).mono ?_; rintro e w1 ⟨rfl, hb1⟩; obtain ⟨hc1, hf1⟩ := bcell hb1; have hz1 := hb1.size; (try simp only [World.size_alloc] at hz1); (try simp only [World.size_setCell] at hz1)
      by_cases hx : xk - k < 0
      · go_wp2_with fail
        go_roundw
        case rel => exact ⟨(a + b) / 2 + 1, b, by omega, hbl, by go_num, rfl, fun t ht => Hlo2.out t ht (by omega), Hhi.out, by (repeat (first | with_reducible exact Below.refl _ _ | with_reducible assumption | (with_reducible refine Below.drew ?_) | (with_reducible refine Below.manyDrew ?_ _) | ((with_reducible refine Below.alloc ?_ ?_ _); rotate_left; (focus (first | omega | (dsimp only; omega) | (simp; done) | (simp; omega)))) | ((with_reducible refine Below.setCell ?_ ?_ _); rotate_left; (focus (first | omega | (dsimp only; omega) | (simp; done) | (simp; omega)))) | ((with_reducible refine Below.step ?_ (by assumption) ?_); rotate_left; (focus (first | omega | (dsimp only; omega) | (simp; done) | (simp; omega))))))⟩
        case measure => simp [intOf]; omega
      · go_wp2_with fail
        go_roundw
        case rel => exact ⟨a, (a + b) / 2, by omega, by omega, rfl, by go_num, Hlo.out, fun t ht htl => Hhi2.out t ht htl (by omega), by (repeat (first | with_reducible exact Below.refl _ _ | with_reducible assumption | (with_reducible refine Below.drew ?_) | (with_reducible refine Below.manyDrew ?_ _) | ((with_reducible refine Below.alloc ?_ ?_ _); rotate_left; (focus (first | omega | (dsimp only; omega) | (simp; done) | (simp; omega)))) | ((with_reducible refine Below.setCell ?_ ?_ _); rotate_left; (focus (first | omega | (dsimp only; omega) | (simp; done) | (simp; omega)))) | ((with_reducible refine Below.step ?_ (by assumption) ?_); rotate_left; (focus (first | omega | (dsimp only; omega) | (simp; done) | (simp; omega))))))⟩
        case measure => simp [intOf]; omega
    · obtain rfl : a = b := by omega
      have hp : vplc k s.xs = a := vplc_eq s.xs a hbl hlo (fun h => hhi a (Nat.le_refl _) h)
      have hz0 := hbr.size
      obtain ⟨r, hr⟩ : ∃ r, vhas k s.xs = r := ⟨_, rfl⟩
      have Hr0 := hid hr
      have Hp := hid hp
      by_cases hin : a < s.xs.length
      · rw [vhas, hp, decide_eq_true hin, Bool.true_and] at hr
        obtain ⟨g, off, hA, hg, hcells⟩ := hs.row (by omega)
        obtain ⟨k0, k1, k2⟩ := (hcells a (by omega)).stays hbr hg
        have hkk := hK a (by omega)
        have Hr := hid hr
        clear hcells hS hK hlo hhi hr hp
        generalize s.xs.getD a M.zero = x at *
        obtain ⟨xk, xv, xa⟩ := x
        simp only at k0 k1 k2 hkk Hr
        rw [hA]
        clear hA
        obtain ⟨hk0, hk8⟩ := hk
        go_wp2_with fail
        refine (vplace1_any xk xv xa k _ hkk ⟨hk0, hk8⟩).mono ?_; rintro e w1 ⟨rfl, hb1⟩; obtain ⟨hc1, hf1⟩ := bcell hb1; have hz1 := hb1.size; (try simp only [World.size_alloc] at hz1); (try simp only [World.size_setCell] at hz1)
        go_wp2_with fail
        refine bodyPost_ret (v := .tuple #[.int .i64 a, .bool r]) ?_ rfl ⟨by rw [Hp.out, Hr0.out], by (repeat (first | with_reducible exact Below.refl _ _ | with_reducible assumption | (with_reducible refine Below.drew ?_) | (with_reducible refine Below.manyDrew ?_ _) | ((with_reducible refine Below.alloc ?_ ?_ _); rotate_left; (focus (first | omega | (dsimp only; omega) | (simp; done) | (simp; omega)))) | ((with_reducible refine Below.setCell ?_ ?_ _); rotate_left; (focus (first | omega | (dsimp only; omega) | (simp; done) | (simp; omega)))) | ((with_reducible refine Below.step ?_ (by assumption) ?_); rotate_left; (focus (first | omega | (dsimp only; omega) | (simp; done) | (simp; omega))))))⟩
        rw [← Hr.out]
        have hq : (xk - k == 0) = decide (xk = k) := by
          rw [Bool.eq_iff_iff]
          simp
          omega
        simp [results, Tryd.results62, go_sem, hq]
      · rw [vhas, hp, decide_eq_false hin, Bool.false_and] at hr
        subst hr
        clear hS hK hlo hhi hp
        go_wp2_with fail
        refine bodyPost_ret (v := .tuple #[.int .i64 a, .bool false]) ?_ rfl ⟨by rw [Hp.out, Hr0.out], by (repeat (first | with_reducible exact Below.refl _ _ | with_reducible assumption | (with_reducible refine Below.drew ?_) | (with_reducible refine Below.manyDrew ?_ _) | ((with_reducible refine Below.alloc ?_ ?_ _); rotate_left; (focus (first | omega | (dsimp only; omega) | (simp; done) | (simp; omega)))) | ((with_reducible refine Below.setCell ?_ ?_ _); rotate_left; (focus (first | omega | (dsimp only; omega) | (simp; done) | (simp; omega)))) | ((with_reducible refine Below.step ?_ (by assumption) ?_); rotate_left; (focus (first | omega | (dsimp only; omega) | (simp; done) | (simp; omega))))))⟩
        simp [results, Tryd.results62, go_sem]

set_option maxHeartbeats 1000000 in
theorem vclone_any (s : SlV M) (w : World) (hs : MsAt w s) (hn : s.xs.length ≤ 1000) :
    Calls Tryd.prog 44 #[.slice s.A s.xs.length s.c] w fun e w' => ∃ v, e = .returned v ∧ Ow M.cells 3 w.heap.size 52 w' v s.xs ∧ Below w.heap.size w w' := by
  have hnil := fun (W : World) (A : Option Addr) (n c n' c' : Nat) => Lib.run_eql_slice_nil (P := Tryd.prog) W 53 52 A n c n' c' Tryd.underlying53
  rcases hA : s.A with _ | a
  · have h0 : s.xs = [] := by
      rcases Nat.eq_zero_or_pos s.xs.length with h | h
      · exact List.eq_nil_of_length_eq_zero h
      · obtain ⟨b, off, h1, _⟩ := hs.row h
        rw [hA] at h1; cases h1
    have H0 := hid h0
    clear hA h0
    go_enter Tryd.func44, Tryd.ntmps44
    go_wp2_with fail
    go_ret
    exact ⟨_, rfl, by rw [H0.out]; exact Ow.nil _ _ _ _ _, by (repeat (first | with_reducible exact Below.refl _ _ | with_reducible assumption | (with_reducible refine Below.drew ?_) | (with_reducible refine Below.manyDrew ?_ _) | ((with_reducible refine Below.alloc ?_ ?_ _); rotate_left; (focus (first | omega | (dsimp only; omega) | (simp; done) | (simp; omega)))) | ((with_reducible refine Below.setCell ?_ ?_ _); rotate_left; (focus (first | omega | (dsimp only; omega) | (simp; done) | (simp; omega)))) | ((with_reducible refine Below.step ?_ (by assumption) ?_); rotate_left; (focus (first | omega | (dsimp only; omega) | (simp; done) | (simp; omega))))))⟩
  · have hs2 : MsAt w ⟨some a, s.c, s.xs⟩ := by rw [← hA]; exact hs
    clear hA
    have hnb : (some a).isNone = false := rfl
    go_enter Tryd.func44, Tryd.ntmps44
    go_wp2_with (at_builtin; refine appMs _ w.heap.size _ [] ⟨some a, s.c, s.xs⟩ (hs2.stays ?c0) (Ow.bare _ _ _ _ _ _) rfl _ _ rfl rfl rfl ?c1 ?c2 ?_)
    case c0 => (repeat (first | with_reducible exact Below.refl _ _ | with_reducible assumption | (with_reducible refine Below.drew ?_) | (with_reducible refine Below.manyDrew ?_ _) | ((with_reducible refine Below.alloc ?_ ?_ _); rotate_left; (focus (first | omega | (dsimp only; omega) | (simp; done) | (simp; omega)))) | ((with_reducible refine Below.setCell ?_ ?_ _); rotate_left; (focus (first | omega | (dsimp only; omega) | (simp; done) | (simp; omega)))) | ((with_reducible refine Below.step ?_ (by assumption) ?_); rotate_left; (focus (first | omega | (dsimp only; omega) | (simp; done) | (simp; omega))))))
    case c1 => first | omega | (simp; omega)
    case c2 => first | omega | simp
    intro v' w2 hown2 hf2 _
    have hb2 : Below w.heap.size w w2 := (show Below w.heap.size w _ by (repeat (first | with_reducible exact Below.refl _ _ | with_reducible assumption | (with_reducible refine Below.drew ?_) | (with_reducible refine Below.manyDrew ?_ _) | ((with_reducible refine Below.alloc ?_ ?_ _); rotate_left; (focus (first | omega | (dsimp only; omega) | (simp; done) | (simp; omega)))) | ((with_reducible refine Below.setCell ?_ ?_ _); rotate_left; (focus (first | omega | (dsimp only; omega) | (simp; done) | (simp; omega)))) | ((with_reducible refine Below.step ?_ (by assumption) ?_); rotate_left; (focus (first | omega | (dsimp only; omega) | (simp; done) | (simp; omega))))))).trans (hf2.below0 (by simp) (fun i hi => by cases hi))
    clear hf2
    go_wp2_with fail
    go_ret
    exact ⟨v', rfl, hown2, hb2⟩
end Go.Proofs.YtgamocljdbffpaaDoor
