/-
  PROVED HERE: merelaw4.GossipNone returns true for every number of nodes: without a call each knows its own. CONDITIONS: none.
-/
import Derived.Test.YtkokohlkjlgdkaaGDone
namespace Go.Proofs.Ytkokohlkjlgdkaa
open Go.RowKit
open Go.ChangeShapes Go.WideShapes Go.ChangeAt

theorem chkG_none (n : Int) : chkG n [] = if nodesB n = true then 0 else 1 := by
  unfold chkG chkCalls
  split
  · rw [if_neg (by decide)]
  · rfl
theorem pows_getD {k n : Nat} (h : k < n) : (pows n).getD k 0 = wrap64 ((2 : Int) ^ k) := by
  rw [pows, List.getD, List.getElem?_map, List.getElem?_range h, Option.map_some, Option.getD_some]
theorem pow_step : ∀ k < 6, wrap64 (2 * wrap64 ((2 : Int) ^ k)) = wrap64 ((2 : Int) ^ (k + 1)) := by
  intro k hk
  obtain rfl | rfl | rfl | rfl | rfl | rfl : k = 0 ∨ k = 1 ∨ k = 2 ∨ k = 3 ∨ k = 4 ∨ k = 5 := by omega
  all_goals simp [wrap64]
theorem doneB_none : ∀ m : Nat, 1 ≤ m → m ≤ 6 → doneB (m : Int) [] = decide ((m : Int) = 1) := by
  intro m h1 h6
  have hn : nodesB (m : Int) = true := nodesB_true.2 (by omega)
  rw [doneB, playR, chkG_none, if_pos hn, if_pos rfl, Int.toNat_natCast, playL, playFrom, decide_eq_true rfl, Bool.true_and, fullI, Int.toNat_natCast]
  obtain rfl | rfl | rfl | rfl | rfl | rfl : m = 1 ∨ m = 2 ∨ m = 3 ∨ m = 4 ∨ m = 5 ∨ m = 6 := by omega
  all_goals simp [pows, List.range_succ, wrap64]

set_option maxHeartbeats 2000000 in
theorem gossipNone_any (n : Int) (w : World) :
    Calls Try.prog 3 #[.int .i64 n] w fun e w' => e = .returned (.bool true) ∧ Below w.heap.size w w' := by
  rcases hn : nodesB n with _ | _
  · have hc : chkG n ([] : List (SlV Int)) = 1 := by rw [chkG_none, hn]; rfl
    have He := hid (errV_ne (show chkG n ([] : List (SlV Int)) ≠ 0 by rw [hc]; decide))
    have ho := nodesB_false.1 hn
    clear hc hn
    by_cases h1 : n < 1
    · clear ho
      go_enter Try.func3, Try.ntmps3
      go_wp2_with fail
      refine (playR_any n ⟨none, 0, []⟩ _ (IntssAt.empty _)).mono ?_
      rintro e w1 ⟨⟨rA, rc, rx⟩, rfl, -, hr1, hb1⟩
      rw [He.out]
      clear He
      go_wp2_with fail
      go_ret
      exact ⟨rfl, hb1⟩
    · have h6 : 6 < n := by omega
      clear ho
      go_enter Try.func3, Try.ntmps3
      go_wp2_with fail
      refine (playR_any n ⟨none, 0, []⟩ _ (IntssAt.empty _)).mono ?_
      rintro e w1 ⟨⟨rA, rc, rx⟩, rfl, -, hr1, hb1⟩
      rw [He.out]
      clear He
      go_wp2_with fail
      go_ret
      exact ⟨rfl, hb1⟩
  · have hN := nodesB_true.1 hn
    obtain ⟨m, rfl⟩ := Int.eq_ofNat_of_zero_le (show 0 ≤ n by omega)
    have hc : chkG (m : Int) ([] : List (SlV Int)) = 0 := by rw [chkG_none, hn]; rfl
    have hp : playR (m : Int) [] = pows m := by rw [playR, if_pos hc, Int.toNat_natCast, playL, playFrom]
    have hd := doneB_none m (by omega) (by omega)
    have Hc := hid hc
    have Hp := hid hp
    have Hd := hid hd
    have e0 : errV 0 = .nilIface := rfl
    have E0 := hid e0
    clear hc hp hd e0 hn
    go_enter Try.func3, Try.ntmps3
    go_wp2_with fail
    refine (playR_any m ⟨none, 0, []⟩ _ (IntssAt.empty _)).mono ?_
    rintro e w1 ⟨⟨rA, rc, rx⟩, rfl, hr, hr1, hb1⟩
    simp only at hr
    rw [Hp.out] at hr
    subst hr
    have hlm : (pows m).length = m := pows_length m
    obtain ⟨b, off, hA, hb, hcells⟩ := hr1.row (by rw [hlm]; omega)
    simp only at hA
    subst hA
    simp only [hlm] at hcells
    rw [Hc.out, E0.out, hlm]
    have hcells' : ∀ i, i < m → w1.cell? ⟨b, off + i, none⟩ = some (.int .i64 (wrap64 ((2 : Int) ^ i))) := fun i hi => by rw [hcells i hi, pows_getD hi]
    clear hcells hlm
    go_wp2_with fail
    go_loop [5, 6] (fun p i => ∃ k : Nat, k ≤ m ∧ i = .int .i64 k ∧ p = .int .i64 (wrap64 ((2 : Int) ^ k))) (fun _ i => m - (intOf i).toNat)
    case atStart => exact ⟨0, by omega, rfl, by rw [show wrap64 ((2 : Int) ^ 0) = 1 by simp [wrap64]]⟩
    case round =>
      obtain ⟨k, hk, rfl, rfl⟩ := hrel
      by_cases hlt : k < m
      · have hcell := hcells' k hlt
        have hs := pow_step k (by omega)
        generalize wrap64 ((2 : Int) ^ k) = p at *
        have Hs := hid hs
        clear hs hcells'
        go_wp2_with fail
        go_round
        case rel => exact ⟨k + 1, by omega, by go_num, by rw [← Hs.out]⟩
        case measure => simp [intOf]; omega
      · obtain rfl : k = m := by omega
        clear hcells'
        go_wp2_with fail
        refine (done_any k ⟨none, 0, []⟩ _ (IntssAt.empty _)).mono ?_
        rw [Hd.out, Hc.out, E0.out]
        rintro e w2 ⟨rfl, hb2⟩; obtain ⟨hc2, hf2⟩ := bcell hb2; have hz2 := hb2.size; (try simp only [World.size_alloc] at hz2); (try simp only [World.size_setCell] at hz2)
        have hz0 := hb1.size
        by_cases h1 : (k : Int) = 1
        · have h1d : decide ((k : Int) = 1) = true := decide_eq_true h1
          rw [h1d]
          go_wp2_with fail
          go_ret
          exact ⟨rfl, by (repeat (first | with_reducible exact Below.refl _ _ | with_reducible assumption | (with_reducible refine Below.drew ?_) | (with_reducible refine Below.manyDrew ?_ _) | ((with_reducible refine Below.alloc ?_ ?_ _); rotate_left; (focus (first | omega | (dsimp only; omega) | (simp; done) | (simp; omega)))) | ((with_reducible refine Below.setCell ?_ ?_ _); rotate_left; (focus (first | omega | (dsimp only; omega) | (simp; done) | (simp; omega)))) | ((with_reducible refine Below.step ?_ (by assumption) ?_); rotate_left; (focus (first | omega | (dsimp only; omega) | (simp; done) | (simp; omega))))))⟩
        · have h1d : decide ((k : Int) = 1) = false := decide_eq_false h1
          have h1e : ((k : Int) == 1) = false := beq_eq_false_iff_ne.2 h1
          rw [h1d]
          go_wp2_with fail
          go_ret
          exact ⟨rfl, by (repeat (first | with_reducible exact Below.refl _ _ | with_reducible assumption | (with_reducible refine Below.drew ?_) | (with_reducible refine Below.manyDrew ?_ _) | ((with_reducible refine Below.alloc ?_ ?_ _); rotate_left; (focus (first | omega | (dsimp only; omega) | (simp; done) | (simp; omega)))) | ((with_reducible refine Below.setCell ?_ ?_ _); rotate_left; (focus (first | omega | (dsimp only; omega) | (simp; done) | (simp; omega)))) | ((with_reducible refine Below.step ?_ (by assumption) ?_); rotate_left; (focus (first | omega | (dsimp only; omega) | (simp; done) | (simp; omega))))))⟩

set_option maxRecDepth 100000 in
theorem gossipNone_walk : LawWalk Try.prog 3 Try.f3 (fun _ => True) := by
  intro W base args H enc ds p hval hA _
  rw [Try.params3] at hA hval
  obtain ⟨v0, d0, rfl, rfl, h0⟩ := trodAll_one hA
  obtain ⟨s, rfl, _⟩ := arg_int Try.underlying3 (hval 0 3 v0 rfl rfl) h0
  exact gossipNone_any s W

set_option maxRecDepth 100000 in
theorem gossipNone_lifted (os : Os) (started : os.Started) (H : Type) (enc : TypeId × Value → H) :
    ReturnsInHanded {} Try.checked os 3 .any (Rows.gossipNoneSpec.pre6 enc Try.prog Try.f3 Rows.gossipNoneRow.domain false) (Rows.gossipNoneSpec.post enc Try.prog Try.f3 false true false false) :=
  law_lifted (C := Try.checked) Rows.gossipNoneRow.domain Try.own started (by kernel_rfl) Try.func3 Try.laidOut (by kernel_rfl) rfl Try.underlying4 rfl (fun ds h => by match ds, h with | [_], _ => rfl)
    (ChangeSpec.witness6 (enc := enc) (C := Try.checked) false ⟨#[], #[.int .i64 0], []⟩ 8 (by kernel_rfl) (by kernel_rfl) (by kernel_rfl) (by kernel_rfl)) gossipNone_walk

theorem gossipNone_holds : Rows.GossipNoneSaid :=
  OpenClaim.holds_of_wide 3 Try.f3 rfl rfl rfl rfl rfl rfl rfl ⟨rfl, rfl, rfl, rfl, rfl⟩ rfl rfl rfl rfl rfl (by kernel_rfl) Try.func3 (by kernel_rfl)
    (of_decide_eq_true (by kernel_rfl)) (by unfold Func.isWrapper; rw [if_neg (of_decide_eq_false (by kernel_rfl))]; exact ⟨rfl, rfl⟩)
    (fun os started H enc _ => gossipNone_lifted os started H enc)

end Go.Proofs.Ytkokohlkjlgdkaa
