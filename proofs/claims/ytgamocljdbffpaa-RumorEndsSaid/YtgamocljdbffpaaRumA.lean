/-
  CONTRACTS: probe.Turn, rumor.check, slices.BinarySearchFunc and slices.Clone at rumors. CONDITIONS: none.
-/
import Derived.Test.YtgamocljdbffpaaULaw
import Derived.Test.YtgamocljdbffpaaView1
namespace Go.Proofs.Ytgamocljdbffpaa
open Go.RowKit
open Go.ChangeShapes Go.WideShapes Go.ChangeAt

theorem turnB_any (t : Int) (w : World) : Calls Try.prog 20 #[.int .i64 t] w fun e w' => e = .returned (.bool (turnB t)) ∧ w = w' := by
  rcases (show t < 0 ∨ (0 ≤ t ∧ 60 < t) ∨ (0 ≤ t ∧ t ≤ 60) by omega) with h | ⟨h, h2⟩ | ⟨h, h2⟩
  all_goals
    go_enter Try.func20, Try.ntmps20
    go_wp2
    go_ret
    refine ⟨ret_b ?_, rfl⟩
    symm
    rw [Bool.eq_iff_iff, turnB_true]
    simp
    try omega

set_option maxHeartbeats 2000000 in
theorem ucheck_any (s : SlV U) (w : World) (hs : UsAt w s) :
    Calls Try.prog 9 #[.slice s.A s.xs.length s.c] w fun e w' => e = .returned (errV (chkU s.xs)) ∧ Below w.heap.size w w' := by
  have hlen := hs.len
  unfold maxLen at hlen
  by_cases h8 : 6 < s.xs.length
  · have h8' : (6 : Int) < (s.xs.length : Int) := by omega
    rw [chkU, if_pos h8]
    go_enter Try.func9, Try.ntmps9
    go_wp2_with fail
    go_ret
    exact ⟨rfl, by (repeat (first | with_reducible exact Below.refl _ _ | with_reducible assumption | (with_reducible refine Below.drew ?_) | (with_reducible refine Below.manyDrew ?_ _) | ((with_reducible refine Below.alloc ?_ ?_ _); rotate_left; (focus (first | omega | (dsimp only; omega) | (simp; done) | (simp; omega)))) | ((with_reducible refine Below.setCell ?_ ?_ _); rotate_left; (focus (first | omega | (dsimp only; omega) | (simp; done) | (simp; omega)))) | ((with_reducible refine Below.step ?_ (by assumption) ?_); rotate_left; (focus (first | omega | (dsimp only; omega) | (simp; done) | (simp; omega))))))⟩
  · have h8' : ¬ (6 : Int) < (s.xs.length : Int) := by omega
    generalize hr : chkU s.xs = r
    rw [chkU, if_neg h8] at hr
    have Hr := hid hr
    clear hr
    go_enter Try.func9, Try.ntmps9
    go_wp2_with fail
    go_loopw [11] (fun i wr => ∃ k : Nat, k ≤ s.xs.length ∧ i = .int .i64 k ∧ chkUs (if k = 0 then none else some (s.xs.getD (k - 1) U.zero).node) (s.xs.drop k) = r ∧ Below w.heap.size w wr) (fun i _ => s.xs.length - (intOf i).toNat)
    case atStart => exact ⟨0, Nat.zero_le _, rfl, Hr.out, Below.refl _ _⟩
    case round =>
      obtain ⟨k, hk, rfl, hkr, hbr⟩ := hrel
      have hz0 := hbr.size
      by_cases hlt : k < s.xs.length
      · obtain ⟨g, off, hA, hg, hcells⟩ := hs.row (by omega)
        obtain ⟨k0, k1, k2, k3⟩ := (hcells k hlt).stays hbr hg
        have hd := drop_consD U.zero hlt
        rw [hd, chkUs] at hkr
        rcases k with _ | j
        · rw [if_pos rfl] at hkr
          rw [Nat.zero_mul, Nat.add_zero] at k0 k1 k2 k3
          rw [Nat.zero_add] at hd hkr
          obtain ⟨x, hx⟩ : ∃ x, s.xs.getD 0 U.zero = x := ⟨_, rfl⟩
          rw [hx] at hkr k0 k1 k2 k3
          have Hx := hid hx
          clear hx
          obtain ⟨x0, x1, x2, x3⟩ := x
          simp only at k0 k1 k2 k3
          have Hkr := hid hkr
          rw [hA]
          clear hA hkr hcells hd
          go_wp2_with fail
          refine (right_any x0 x1 x2 _).mono ?_
          rcases hc : rightB ⟨x0, x1, x2⟩ with _ | _
          · rintro e w1 ⟨rfl, hb1⟩
            have hcr : (1 : Int) = r := by rw [← Hkr.out, okU, show rightB (U.mem ⟨x0, x1, x2, x3⟩) = false from hc]; rfl
            subst hcr
            clear Hkr hc
            go_wp2_with fail
            go_ret
            exact ⟨rfl, by (repeat (first | with_reducible exact Below.refl _ _ | with_reducible assumption | (with_reducible refine Below.drew ?_) | (with_reducible refine Below.manyDrew ?_ _) | ((with_reducible refine Below.alloc ?_ ?_ _); rotate_left; (focus (first | omega | (dsimp only; omega) | (simp; done) | (simp; omega)))) | ((with_reducible refine Below.setCell ?_ ?_ _); rotate_left; (focus (first | omega | (dsimp only; omega) | (simp; done) | (simp; omega)))) | ((with_reducible refine Below.step ?_ (by assumption) ?_); rotate_left; (focus (first | omega | (dsimp only; omega) | (simp; done) | (simp; omega))))))⟩
          rcases ht : turnB x3 with _ | _
          · rintro e w1 ⟨rfl, hb1⟩
            have e3 : w1.cell? ⟨wr.heap.size, 3, none⟩ = some (.int .i64 x3) := ((Blk.new wr 39 #[.int .i64 x0, .int .i64 x1, .int .i64 x2, .int .i64 x3]).belowS hb1).cell 3
            have hl1 : wr.heap.size < w1.heap.size := ((Blk.new wr 39 #[.int .i64 x0, .int .i64 x1, .int .i64 x2, .int .i64 x3]).belowS hb1).lt
            have hcr : (1 : Int) = r := by rw [← Hkr.out, okU, show rightB (U.mem ⟨x0, x1, x2, x3⟩) = true from hc, show turnB (U.told ⟨x0, x1, x2, x3⟩) = false from ht]; rfl
            subst hcr
            have Ht := hid ht
            clear Hkr hc ht
            go_wp2_with fail
            refine (turnB_any x3 _).mono ?_
            rw [Ht.out]
            rintro e w2 ⟨rfl, rfl⟩
            go_wp2_with fail
            go_ret
            exact ⟨rfl, by (repeat (first | with_reducible exact Below.refl _ _ | with_reducible assumption | (with_reducible refine Below.drew ?_) | (with_reducible refine Below.manyDrew ?_ _) | ((with_reducible refine Below.alloc ?_ ?_ _); rotate_left; (focus (first | omega | (dsimp only; omega) | (simp; done) | (simp; omega)))) | ((with_reducible refine Below.setCell ?_ ?_ _); rotate_left; (focus (first | omega | (dsimp only; omega) | (simp; done) | (simp; omega)))) | ((with_reducible refine Below.step ?_ (by assumption) ?_); rotate_left; (focus (first | omega | (dsimp only; omega) | (simp; done) | (simp; omega))))))⟩
          have hok : okU ⟨x0, x1, x2, x3⟩ = true := by rw [okU, show rightB (U.mem ⟨x0, x1, x2, x3⟩) = true from hc, show turnB (U.told ⟨x0, x1, x2, x3⟩) = true from ht]; rfl
          · have Ht := hid ht
            clear ht
            rintro e w1 ⟨rfl, hb1⟩
            have e3 : w1.cell? ⟨wr.heap.size, 3, none⟩ = some (.int .i64 x3) := ((Blk.new wr 39 #[.int .i64 x0, .int .i64 x1, .int .i64 x2, .int .i64 x3]).belowS hb1).cell 3
            have e0 : w1.cell? ⟨wr.heap.size, 0, none⟩ = some (.int .i64 x0) := ((Blk.new wr 39 #[.int .i64 x0, .int .i64 x1, .int .i64 x2, .int .i64 x3]).belowS hb1).cell 0
            have hl1 : wr.heap.size < w1.heap.size := ((Blk.new wr 39 #[.int .i64 x0, .int .i64 x1, .int .i64 x2, .int .i64 x3]).belowS hb1).lt
            have Hkr2 := hid ((if_pos hok).symm.trans Hkr.out)
            clear Hkr hc hok
            go_wp2_with fail
            refine (turnB_any x3 _).mono ?_
            rw [Ht.out]
            rintro e w2 ⟨rfl, rfl⟩
            go_wp2_with fail
            go_quiet (fail)
            go_wp2_with fail
            go_roundw
            case rel => exact ⟨1, by omega, by go_num, by show chkUs (some (s.xs.getD 0 U.zero).node) _ = _; rw [Hx.out]; exact Hkr2.out, by (repeat (first | with_reducible exact Below.refl _ _ | with_reducible assumption | (with_reducible refine Below.drew ?_) | (with_reducible refine Below.manyDrew ?_ _) | ((with_reducible refine Below.alloc ?_ ?_ _); rotate_left; (focus (first | omega | (dsimp only; omega) | (simp; done) | (simp; omega)))) | ((with_reducible refine Below.setCell ?_ ?_ _); rotate_left; (focus (first | omega | (dsimp only; omega) | (simp; done) | (simp; omega)))) | ((with_reducible refine Below.step ?_ (by assumption) ?_); rotate_left; (focus (first | omega | (dsimp only; omega) | (simp; done) | (simp; omega))))))⟩
            case measure => simp [intOf]; omega
        · have hq := ((hcells j (by omega)).stays hbr hg).c0
          rw [if_neg (Nat.succ_ne_zero j), Nat.add_sub_cancel] at hkr
          generalize s.xs.getD j U.zero = y at *
          obtain ⟨x, hx⟩ : ∃ x, s.xs.getD (j + 1) U.zero = x := ⟨_, rfl⟩
          rw [hx] at hkr k0 k1 k2 k3
          have Hx := hid hx
          clear hx
          obtain ⟨x0, x1, x2, x3⟩ := x
          simp only at k0 k1 k2 k3
          have Hkr := hid hkr
          rw [hA]
          clear hA hkr hcells hd
          go_wp2_with fail
          refine (right_any x0 x1 x2 _).mono ?_
          rcases hc : rightB ⟨x0, x1, x2⟩ with _ | _
          · rintro e w1 ⟨rfl, hb1⟩
            have hcr : (1 : Int) = r := by rw [← Hkr.out, okU, show rightB (U.mem ⟨x0, x1, x2, x3⟩) = false from hc]; rfl
            subst hcr
            clear Hkr hc
            go_wp2_with fail
            go_ret
            exact ⟨rfl, by (repeat (first | with_reducible exact Below.refl _ _ | with_reducible assumption | (with_reducible refine Below.drew ?_) | (with_reducible refine Below.manyDrew ?_ _) | ((with_reducible refine Below.alloc ?_ ?_ _); rotate_left; (focus (first | omega | (dsimp only; omega) | (simp; done) | (simp; omega)))) | ((with_reducible refine Below.setCell ?_ ?_ _); rotate_left; (focus (first | omega | (dsimp only; omega) | (simp; done) | (simp; omega)))) | ((with_reducible refine Below.step ?_ (by assumption) ?_); rotate_left; (focus (first | omega | (dsimp only; omega) | (simp; done) | (simp; omega))))))⟩
          rcases ht : turnB x3 with _ | _
          · rintro e w1 ⟨rfl, hb1⟩
            have e3 : w1.cell? ⟨wr.heap.size, 3, none⟩ = some (.int .i64 x3) := ((Blk.new wr 39 #[.int .i64 x0, .int .i64 x1, .int .i64 x2, .int .i64 x3]).belowS hb1).cell 3
            have hl1 : wr.heap.size < w1.heap.size := ((Blk.new wr 39 #[.int .i64 x0, .int .i64 x1, .int .i64 x2, .int .i64 x3]).belowS hb1).lt
            have hcr : (1 : Int) = r := by rw [← Hkr.out, okU, show rightB (U.mem ⟨x0, x1, x2, x3⟩) = true from hc, show turnB (U.told ⟨x0, x1, x2, x3⟩) = false from ht]; rfl
            subst hcr
            have Ht := hid ht
            clear Hkr hc ht
            go_wp2_with fail
            refine (turnB_any x3 _).mono ?_
            rw [Ht.out]
            rintro e w2 ⟨rfl, rfl⟩
            go_wp2_with fail
            go_ret
            exact ⟨rfl, by (repeat (first | with_reducible exact Below.refl _ _ | with_reducible assumption | (with_reducible refine Below.drew ?_) | (with_reducible refine Below.manyDrew ?_ _) | ((with_reducible refine Below.alloc ?_ ?_ _); rotate_left; (focus (first | omega | (dsimp only; omega) | (simp; done) | (simp; omega)))) | ((with_reducible refine Below.setCell ?_ ?_ _); rotate_left; (focus (first | omega | (dsimp only; omega) | (simp; done) | (simp; omega)))) | ((with_reducible refine Below.step ?_ (by assumption) ?_); rotate_left; (focus (first | omega | (dsimp only; omega) | (simp; done) | (simp; omega))))))⟩
          have hok : okU ⟨x0, x1, x2, x3⟩ = true := by rw [okU, show rightB (U.mem ⟨x0, x1, x2, x3⟩) = true from hc, show turnB (U.told ⟨x0, x1, x2, x3⟩) = true from ht]; rfl
          · have Ht := hid ht
            clear ht
            rintro e w1 ⟨rfl, hb1⟩
            have e3 : w1.cell? ⟨wr.heap.size, 3, none⟩ = some (.int .i64 x3) := ((Blk.new wr 39 #[.int .i64 x0, .int .i64 x1, .int .i64 x2, .int .i64 x3]).belowS hb1).cell 3
            have e0 : w1.cell? ⟨wr.heap.size, 0, none⟩ = some (.int .i64 x0) := ((Blk.new wr 39 #[.int .i64 x0, .int .i64 x1, .int .i64 x2, .int .i64 x3]).belowS hb1).cell 0
            have hl1 : wr.heap.size < w1.heap.size := ((Blk.new wr 39 #[.int .i64 x0, .int .i64 x1, .int .i64 x2, .int .i64 x3]).belowS hb1).lt
            replace hq := (hb1.cell (p := ⟨g, _, none⟩) (by simp; omega)).trans ((((Below.refl wr.heap.size wr).alloc (Nat.le_refl _) _).cell (p := ⟨g, _, none⟩) (by dsimp only; omega)).trans hq)
            have Hkr2 := hid ((if_pos hok).symm.trans Hkr.out)
            clear Hkr hc hok
            go_wp2_with fail
            refine (turnB_any x3 _).mono ?_
            rw [Ht.out]
            rintro e w2 ⟨rfl, rfl⟩
            by_cases hle : x0 ≤ y.node
            · have hr3 : (3 : Int) = r := by rw [← Hkr2.out, vlow]; simp [hle]
              subst hr3
              clear Hkr2
              go_wp2_with fail
              go_quiet (fail)
              go_wp2_with fail
              go_ret
              exact ⟨rfl, by (repeat (first | with_reducible exact Below.refl _ _ | with_reducible assumption | (with_reducible refine Below.drew ?_) | (with_reducible refine Below.manyDrew ?_ _) | ((with_reducible refine Below.alloc ?_ ?_ _); rotate_left; (focus (first | omega | (dsimp only; omega) | (simp; done) | (simp; omega)))) | ((with_reducible refine Below.setCell ?_ ?_ _); rotate_left; (focus (first | omega | (dsimp only; omega) | (simp; done) | (simp; omega)))) | ((with_reducible refine Below.step ?_ (by assumption) ?_); rotate_left; (focus (first | omega | (dsimp only; omega) | (simp; done) | (simp; omega))))))⟩
            · have Hkr3 := hid ((if_neg (show ¬ vlow (some y.node) x0 = true by simp [vlow]; omega)).symm.trans Hkr2.out)
              clear Hkr2
              go_wp2_with fail
              go_quiet (fail)
              go_wp2_with fail
              go_roundw
              case rel => exact ⟨j + 1 + 1, by omega, by go_num, by show chkUs (some (s.xs.getD (j + 1) U.zero).node) _ = _; rw [Hx.out]; exact Hkr3.out, by (repeat (first | with_reducible exact Below.refl _ _ | with_reducible assumption | (with_reducible refine Below.drew ?_) | (with_reducible refine Below.manyDrew ?_ _) | ((with_reducible refine Below.alloc ?_ ?_ _); rotate_left; (focus (first | omega | (dsimp only; omega) | (simp; done) | (simp; omega)))) | ((with_reducible refine Below.setCell ?_ ?_ _); rotate_left; (focus (first | omega | (dsimp only; omega) | (simp; done) | (simp; omega)))) | ((with_reducible refine Below.step ?_ (by assumption) ?_); rotate_left; (focus (first | omega | (dsimp only; omega) | (simp; done) | (simp; omega))))))⟩
              case measure => simp [intOf]; omega
      · obtain rfl : k = s.xs.length := by omega
        have hr0 : (0 : Int) = r := by
          rw [List.drop_length] at hkr
          exact hkr
        subst hr0
        clear hkr
        go_wp2_with fail
        go_ret
        exact ⟨rfl, by (repeat (first | with_reducible exact Below.refl _ _ | with_reducible assumption | (with_reducible refine Below.drew ?_) | (with_reducible refine Below.manyDrew ?_ _) | ((with_reducible refine Below.alloc ?_ ?_ _); rotate_left; (focus (first | omega | (dsimp only; omega) | (simp; done) | (simp; omega)))) | ((with_reducible refine Below.setCell ?_ ?_ _); rotate_left; (focus (first | omega | (dsimp only; omega) | (simp; done) | (simp; omega)))) | ((with_reducible refine Below.step ?_ (by assumption) ?_); rotate_left; (focus (first | omega | (dsimp only; omega) | (simp; done) | (simp; omega))))))⟩

theorem uplace1_any (k v a t : Int) (x : Int) (w : World) (h0 : 0 ≤ k ∧ k < 6) (h1 : 0 ≤ x ∧ x < 6) :
    Calls Try.prog 13 #[.agg #[.int .i64 k, .int .i64 v, .int .i64 a, .int .i64 t], .int .i64 x] w fun e w' => e = .returned (.int .i64 (k - x)) ∧ Below w.heap.size w w' := by
  obtain ⟨h0a, h0b⟩ := h0
  obtain ⟨h1a, h1b⟩ := h1
  go_enter Try.func13, Try.ntmps13
  go_wp2_with fail
  go_ret
  refine ⟨ret_i ?_, by (repeat (first | with_reducible exact Below.refl _ _ | with_reducible assumption | (with_reducible refine Below.drew ?_) | (with_reducible refine Below.manyDrew ?_ _) | ((with_reducible refine Below.alloc ?_ ?_ _); rotate_left; (focus (first | omega | (dsimp only; omega) | (simp; done) | (simp; omega)))) | ((with_reducible refine Below.setCell ?_ ?_ _); rotate_left; (focus (first | omega | (dsimp only; omega) | (simp; done) | (simp; omega)))) | ((with_reducible refine Below.step ?_ (by assumption) ?_); rotate_left; (focus (first | omega | (dsimp only; omega) | (simp; done) | (simp; omega))))))⟩
  first | rfl | (unfold wrap64; omega)

set_option maxHeartbeats 2000000 in
theorem ubsf_any (k : Int) (s : SlV U) (w : World) (hs : UsAt w s) (hS0 : VSorted (um s.xs)) (hK0 : VIn (um s.xs)) (hk : 0 ≤ k ∧ k < 6) (hn : s.xs.length ≤ 6) :
    Calls Try.prog 12 #[.slice s.A s.xs.length s.c, .int .i64 k, .func (.func 13) #[] #[]] w fun e w' => e = .returned (.tuple #[.int .i64 (vplc k (um s.xs)), .bool (vhas k (um s.xs))]) ∧ Below w.heap.size w w' := by
  have hS : ∀ a b, a < b → b < s.xs.length → (s.xs.getD a U.zero).node < (s.xs.getD b U.zero).node := fun a b hab hb => by
    have := hS0 a b hab (by rw [um_length]; exact hb)
    rw [um_getD, um_getD] at this
    exact this
  have hK : ∀ a, a < s.xs.length → 0 ≤ (s.xs.getD a U.zero).node ∧ (s.xs.getD a U.zero).node < 6 := fun a ha => by
    have := hK0 a (by rw [um_length]; exact ha)
    rw [um_getD] at this
    exact this
  have hpe : ∀ i, i ≤ s.xs.length → (∀ t, t < i → (s.xs.getD t U.zero).node < k) → (i < s.xs.length → k ≤ (s.xs.getD i U.zero).node) → vplc k (um s.xs) = i := fun i hi h1 h2 =>
    vplc_eq (um s.xs) i (by rw [um_length]; exact hi) (fun t ht => by rw [um_getD]; exact h1 t ht) (fun h => by rw [um_getD]; exact h2 (by rw [um_length] at h; exact h))
  have Hpe := hid hpe
  clear hpe hS0 hK0
  go_enter Try.func12, Try.ntmps12
  go_wp2_with fail
  go_loopw [9, 10] (fun i j wr => ∃ a b : Nat, a ≤ b ∧ b ≤ s.xs.length ∧ i = .int .i64 a ∧ j = .int .i64 b ∧ (∀ t, t < a → (s.xs.getD t U.zero).node < k) ∧ (∀ t, b ≤ t → t < s.xs.length → k ≤ (s.xs.getD t U.zero).node) ∧ Below w.heap.size w wr) (fun i j _ => (intOf j).toNat - (intOf i).toNat)
  case atStart => exact ⟨0, s.xs.length, by omega, by omega, rfl, rfl, by omega, by omega, Below.refl _ _⟩
  case round =>
    obtain ⟨a, b, hab, hbl, rfl, rfl, hlo, hhi, hbr⟩ := hrel
    by_cases hlt : a < b
    · obtain ⟨g, off, hA, hg, hcells⟩ := hs.row (by omega)
      obtain ⟨k0, k1, k2, k3⟩ := (hcells ((a + b) / 2) (by omega)).stays hbr hg
      have hkk := hK ((a + b) / 2) (by omega)
      have hlo2 : ∀ t, t < (a + b) / 2 + 1 → (s.xs.getD ((a + b) / 2) U.zero).node < k → (s.xs.getD t U.zero).node < k := fun t ht hx => by
        by_cases htm : t = (a + b) / 2
        · rw [htm]; exact hx
        · have := hS t ((a + b) / 2) (by omega) (by omega)
          omega
      have hhi2 : ∀ t, (a + b) / 2 ≤ t → t < s.xs.length → k ≤ (s.xs.getD ((a + b) / 2) U.zero).node → k ≤ (s.xs.getD t U.zero).node := fun t ht htl hx => by
        by_cases htm : t = (a + b) / 2
        · rw [htm]; exact hx
        · have := hS ((a + b) / 2) t (by omega) (by omega)
          omega
      have Hlo2 := hid hlo2
      have Hhi2 := hid hhi2
      have Hlo := hid hlo
      have Hhi := hid hhi
      clear hlo2 hhi2 hlo hhi hcells hS hK
      generalize s.xs.getD ((a + b) / 2) U.zero = x at *
      obtain ⟨xk, xv, xa, xt⟩ := x
      simp only at k0 k1 k2 k3 hkk Hlo2 Hhi2
      rw [hA]
      clear hA
      obtain ⟨hk0, hk8⟩ := hk
      have hz0 := hbr.size
      go_wp2_with fail
      refine (uplace1_any xk xv xa xt k _ hkk ⟨hk0, hk8⟩).mono ?_; rintro e w1 ⟨rfl, hb1⟩; obtain ⟨hc1, hf1⟩ := bcell hb1; have hz1 := hb1.size; (try simp only [World.size_alloc] at hz1); (try simp only [World.size_setCell] at hz1)
      by_cases hx : xk - k < 0
      · go_wp2_with fail
        go_roundw
        case rel => exact ⟨(a + b) / 2 + 1, b, by omega, hbl, by go_num, rfl, fun t ht => Hlo2.out t ht (by omega), Hhi.out, by (repeat (first | with_reducible exact Below.refl _ _ | with_reducible assumption | (with_reducible refine Below.drew ?_) | (with_reducible refine Below.manyDrew ?_ _) | ((with_reducible refine Below.alloc ?_ ?_ _); rotate_left; (focus (first | omega | (dsimp only; omega) | (simp; done) | (simp; omega)))) | ((with_reducible refine Below.setCell ?_ ?_ _); rotate_left; (focus (first | omega | (dsimp only; omega) | (simp; done) | (simp; omega)))) | ((with_reducible refine Below.step ?_ (by assumption) ?_); rotate_left; (focus (first | omega | (dsimp only; omega) | (simp; done) | (simp; omega))))))⟩
        case measure => simp [intOf]; omega
      · go_wp2_with fail
        go_roundw
        case rel => exact ⟨a, (a + b) / 2, by omega, by omega, rfl, by go_num, Hlo.out, fun t ht htl => Hhi2.out t ht htl (by omega), by (repeat (first | with_reducible exact Below.refl _ _ | with_reducible assumption | (with_reducible refine Below.drew ?_) | (with_reducible refine Below.manyDrew ?_ _) | ((with_reducible refine Below.alloc ?_ ?_ _); rotate_left; (focus (first | omega | (dsimp only; omega) | (simp; done) | (simp; omega)))) | ((with_reducible refine Below.setCell ?_ ?_ _); rotate_left; (focus (first | omega | (dsimp only; omega) | (simp; done) | (simp; omega)))) | ((with_reducible refine Below.step ?_ (by assumption) ?_); rotate_left; (focus (first | omega | (dsimp only; omega) | (simp; done) | (simp; omega))))))⟩
        case measure => simp [intOf]; omega
    · obtain rfl : a = b := by omega
      have hp : vplc k (um s.xs) = a := Hpe.out a hbl hlo (fun h => hhi a (Nat.le_refl _) h)
      have hz0 := hbr.size
      obtain ⟨r, hr⟩ : ∃ r, vhas k (um s.xs) = r := ⟨_, rfl⟩
      have Hr0 := hid hr
      have Hp := hid hp
      by_cases hin : a < s.xs.length
      · rw [vhas, hp, um_length, um_getD, decide_eq_true hin, Bool.true_and] at hr
        obtain ⟨g, off, hA, hg, hcells⟩ := hs.row (by omega)
        obtain ⟨k0, k1, k2, k3⟩ := (hcells a (by omega)).stays hbr hg
        have hkk := hK a (by omega)
        have Hr := hid hr
        clear hcells hS hK hlo hhi hr hp
        generalize s.xs.getD a U.zero = x at *
        obtain ⟨xk, xv, xa, xt⟩ := x
        simp only at k0 k1 k2 k3 hkk Hr
        rw [hA]
        clear hA
        obtain ⟨hk0, hk8⟩ := hk
        go_wp2_with fail
        refine (uplace1_any xk xv xa xt k _ hkk ⟨hk0, hk8⟩).mono ?_; rintro e w1 ⟨rfl, hb1⟩; obtain ⟨hc1, hf1⟩ := bcell hb1; have hz1 := hb1.size; (try simp only [World.size_alloc] at hz1); (try simp only [World.size_setCell] at hz1)
        go_wp2_with fail
        refine bodyPost_ret (v := .tuple #[.int .i64 a, .bool r]) ?_ rfl ⟨by rw [Hp.out, Hr0.out], by (repeat (first | with_reducible exact Below.refl _ _ | with_reducible assumption | (with_reducible refine Below.drew ?_) | (with_reducible refine Below.manyDrew ?_ _) | ((with_reducible refine Below.alloc ?_ ?_ _); rotate_left; (focus (first | omega | (dsimp only; omega) | (simp; done) | (simp; omega)))) | ((with_reducible refine Below.setCell ?_ ?_ _); rotate_left; (focus (first | omega | (dsimp only; omega) | (simp; done) | (simp; omega)))) | ((with_reducible refine Below.step ?_ (by assumption) ?_); rotate_left; (focus (first | omega | (dsimp only; omega) | (simp; done) | (simp; omega))))))⟩
        rw [← Hr.out]
        have hq : (xk - k == 0) = decide (xk = k) := by
          rw [Bool.eq_iff_iff]
          simp
          omega
        simp [results, Try.results12, go_sem, hq, U.mem]
        all_goals exact decide_eq_decide.2 Iff.rfl
      · rw [vhas, hp, um_length, decide_eq_false hin, Bool.false_and] at hr
        subst hr
        clear hS hK hlo hhi hp
        go_wp2_with fail
        refine bodyPost_ret (v := .tuple #[.int .i64 a, .bool false]) ?_ rfl ⟨by rw [Hp.out, Hr0.out], by (repeat (first | with_reducible exact Below.refl _ _ | with_reducible assumption | (with_reducible refine Below.drew ?_) | (with_reducible refine Below.manyDrew ?_ _) | ((with_reducible refine Below.alloc ?_ ?_ _); rotate_left; (focus (first | omega | (dsimp only; omega) | (simp; done) | (simp; omega)))) | ((with_reducible refine Below.setCell ?_ ?_ _); rotate_left; (focus (first | omega | (dsimp only; omega) | (simp; done) | (simp; omega)))) | ((with_reducible refine Below.step ?_ (by assumption) ?_); rotate_left; (focus (first | omega | (dsimp only; omega) | (simp; done) | (simp; omega))))))⟩
        simp [results, Try.results12, go_sem]

set_option maxHeartbeats 1000000 in
theorem uclone_any (s : SlV U) (w : World) (hs : UsAt w s) (hn : s.xs.length ≤ 1000) :
    Calls Try.prog 11 #[.slice s.A s.xs.length s.c] w fun e w' => ∃ v, e = .returned v ∧ Ow U.cells 4 w.heap.size 39 w' v s.xs ∧ Below w.heap.size w w' := by
  have hnil := fun (W : World) (A : Option Addr) (n c n' c' : Nat) => Lib.run_eql_slice_nil (P := Try.prog) W 24 39 A n c n' c' Try.underlying24
  rcases hA : s.A with _ | a
  · have h0 : s.xs = [] := by
      rcases Nat.eq_zero_or_pos s.xs.length with h | h
      · exact List.eq_nil_of_length_eq_zero h
      · obtain ⟨b, off, h1, _⟩ := hs.row h
        rw [hA] at h1; cases h1
    have H0 := hid h0
    clear hA h0
    go_enter Try.func11, Try.ntmps11
    go_wp2_with fail
    go_ret
    exact ⟨_, rfl, by rw [H0.out]; exact Ow.nil _ _ _ _ _, by (repeat (first | with_reducible exact Below.refl _ _ | with_reducible assumption | (with_reducible refine Below.drew ?_) | (with_reducible refine Below.manyDrew ?_ _) | ((with_reducible refine Below.alloc ?_ ?_ _); rotate_left; (focus (first | omega | (dsimp only; omega) | (simp; done) | (simp; omega)))) | ((with_reducible refine Below.setCell ?_ ?_ _); rotate_left; (focus (first | omega | (dsimp only; omega) | (simp; done) | (simp; omega)))) | ((with_reducible refine Below.step ?_ (by assumption) ?_); rotate_left; (focus (first | omega | (dsimp only; omega) | (simp; done) | (simp; omega))))))⟩
  · have hs2 : UsAt w ⟨some a, s.c, s.xs⟩ := by rw [← hA]; exact hs
    clear hA
    have hnb : (some a).isNone = false := rfl
    go_enter Try.func11, Try.ntmps11
    go_wp2_with (at_builtin; refine appUs _ w.heap.size _ [] ⟨some a, s.c, s.xs⟩ (hs2.stays ?c0) (Ow.bare _ _ _ _ _ _) rfl _ _ rfl rfl rfl ?c1 ?c2 ?_)
    case c0 => (repeat (first | with_reducible exact Below.refl _ _ | with_reducible assumption | (with_reducible refine Below.drew ?_) | (with_reducible refine Below.manyDrew ?_ _) | ((with_reducible refine Below.alloc ?_ ?_ _); rotate_left; (focus (first | omega | (dsimp only; omega) | (simp; done) | (simp; omega)))) | ((with_reducible refine Below.setCell ?_ ?_ _); rotate_left; (focus (first | omega | (dsimp only; omega) | (simp; done) | (simp; omega)))) | ((with_reducible refine Below.step ?_ (by assumption) ?_); rotate_left; (focus (first | omega | (dsimp only; omega) | (simp; done) | (simp; omega))))))
    case c1 => first | omega | (simp; omega)
    case c2 => first | omega | simp
    intro v' w2 hown2 hf2 _
    have hb2 : Below w.heap.size w w2 := (show Below w.heap.size w _ by (repeat (first | with_reducible exact Below.refl _ _ | with_reducible assumption | (with_reducible refine Below.drew ?_) | (with_reducible refine Below.manyDrew ?_ _) | ((with_reducible refine Below.alloc ?_ ?_ _); rotate_left; (focus (first | omega | (dsimp only; omega) | (simp; done) | (simp; omega)))) | ((with_reducible refine Below.setCell ?_ ?_ _); rotate_left; (focus (first | omega | (dsimp only; omega) | (simp; done) | (simp; omega)))) | ((with_reducible refine Below.step ?_ (by assumption) ?_); rotate_left; (focus (first | omega | (dsimp only; omega) | (simp; done) | (simp; omega))))))).trans (hf2.below0 (by simp) (fun i hi => by cases hi))
    clear hf2
    go_wp2_with fail
    go_ret
    exact ⟨v', rfl, hown2, hb2⟩
end Go.Proofs.Ytgamocljdbffpaa
