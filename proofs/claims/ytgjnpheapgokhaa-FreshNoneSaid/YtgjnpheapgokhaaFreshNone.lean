/-
  PROVED HERE: merelaw4.FreshNone returns true for all entries: by a floor of 0 none is stale. CONDITIONS: none.
-/
import Derived.Test.YtgjnpheapgokhaaFresh
namespace Go.Proofs.Ytgjnpheapgokhaa
open Go.RowKit
open Go.ChangeShapes Go.WideShapes Go.ChangeAt

theorem plc_self {l : List E} (hS : SortedK l) {i : Nat} (hi : i < l.length) : plc (l.getD i E.zero).key l = i :=
  plc_eq l i (by omega) (fun t ht => hS t i ht hi) (fun _ => Int.le_refl _)
theorem getR_self {l : List E} (h : chkC l = 0) {i : Nat} (hi : i < l.length) : getR l (l.getD i E.zero).key = (l.getD i E.zero, 0) := by
  obtain ⟨_, hch, hS, hK⟩ := chkC_ok h
  have hp := plc_self hS hi
  have hk : keyB (l.getD i E.zero).key = true := keyB_true.2 (hK i hi)
  have hh : hasK (l.getD i E.zero).key l = true := by rw [hasK, hp]; simp [hi]
  rw [getR, if_pos h, if_pos hk, if_pos hh, hp]
theorem freshR_self {l : List E} (h : chkC l = 0) {i : Nat} (hi : i < l.length) : freshR l (l.getD i E.zero).key 0 = (l.getD i E.zero, 0) := by
  have ha := chk_asof ((chkC_ok h).2.1 _ (getD_mem hi))
  rw [freshR, if_pos (by decide), getR_self h hi, if_pos rfl, if_neg (by simp only; omega)]

set_option maxHeartbeats 400000 in
theorem freshNone_any (s : SlV E) (w : World) (hs : EntriesAt w s) :
    Calls Try.prog 3 #[.slice s.A s.xs.length s.c] w fun e w' => e = .returned (.bool true) ∧ Below w.heap.size w w' := by
  by_cases hc : chkC s.xs = 0
  · have Hc := hid hc
    clear hc
    have hlen := hs.len
    unfold maxLen at hlen
    go_enter Try.func3, Try.ntmps3
    go_wp2_with fail
    refine (stale_zero s _ hs).mono ?_; rintro e w1 ⟨rfl, hb1⟩; obtain ⟨hc1, hf1⟩ := bcell hb1; have hz1 := hb1.size; (try simp only [World.size_alloc] at hz1); (try simp only [World.size_setCell] at hz1)
    rw [Hc.out, show errV 0 = .nilIface from rfl]
    go_wp2_with fail
    go_loopw [5] (fun i wr => ∃ k : Nat, k ≤ s.xs.length ∧ i = .int .i64 k ∧ Below w.heap.size w wr) (fun i _ => s.xs.length - (intOf i).toNat)
    case atStart => exact ⟨0, Nat.zero_le _, rfl, by (repeat (first | with_reducible exact Below.refl _ _ | with_reducible assumption | (with_reducible refine Below.drew ?_) | (with_reducible refine Below.manyDrew ?_ _) | ((with_reducible refine Below.alloc ?_ ?_ _); rotate_left; (focus (first | omega | (dsimp only; omega) | (simp; done) | (simp; omega)))) | ((with_reducible refine Below.setCell ?_ ?_ _); rotate_left; (focus (first | omega | (dsimp only; omega) | (simp; done) | (simp; omega)))) | ((with_reducible refine Below.step ?_ (by assumption) ?_); rotate_left; (focus (first | omega | (dsimp only; omega) | (simp; done) | (simp; omega))))))⟩
    case round =>
      obtain ⟨k, hk, rfl, hbr⟩ := hrel
      have hz0 := hbr.size
      clear hb1 hc1 hf1 hz1
      by_cases hlt : k < s.xs.length
      · obtain ⟨g, off, hA, hg, hcells⟩ := hs.get (by omega)
        have hE := hcells k hlt
        obtain ⟨k0, k1, k2, k3, k4⟩ := hE.stays hbr hg
        have hR := freshR_self Hc.out hlt
        obtain ⟨x, hx⟩ : ∃ x, s.xs.getD k E.zero = x := ⟨_, rfl⟩
        rw [hx] at hE k0 k1 k2 k3 k4 hR
        clear hx hcells
        obtain ⟨xk, xv, xa, xg, xt⟩ := x
        simp only at k0 k1 k2 k3 k4
        simp only at hR
        have HR := hid hR
        have hsr := hs.stays hbr
        have HA := hid hA
        rw [hA]
        clear hA hR
        go_wp2_with fail
        have hfr := freshGet_any s xk 0 _ hsr
        rw [HA.out, HR.out] at hfr
        simp only [E.val] at hfr
        refine hfr.mono ?_
        clear hfr
        rintro e w2 ⟨rfl, hb2⟩; obtain ⟨hc2, hf2⟩ := bcell hb2; have hz2 := hb2.size; (try simp only [World.size_alloc] at hz2); (try simp only [World.size_setCell] at hz2)
        rw [show errV 0 = .nilIface from rfl]
        have hbb : Below w.heap.size w w2 := by (repeat (first | with_reducible exact Below.refl _ _ | with_reducible assumption | (with_reducible refine Below.drew ?_) | (with_reducible refine Below.manyDrew ?_ _) | ((with_reducible refine Below.alloc ?_ ?_ _); rotate_left; (focus (first | omega | (dsimp only; omega) | (simp; done) | (simp; omega)))) | ((with_reducible refine Below.setCell ?_ ?_ _); rotate_left; (focus (first | omega | (dsimp only; omega) | (simp; done) | (simp; omega)))) | ((with_reducible refine Below.step ?_ (by assumption) ?_); rotate_left; (focus (first | omega | (dsimp only; omega) | (simp; done) | (simp; omega))))))
        obtain ⟨q0, q1, q2, q3, q4⟩ := hE.stays hbb hg
        simp only at q0 q1 q2 q3 q4
        have hgl : g < w2.heap.size := by omega
        have htt : (xt.toList == xt.toList) = true := beq_self_eq_true _
        go_wp2_with fail
        go_quiet (fail)
        go_wp2_with fail
        go_roundw
        case rel => exact ⟨k + 1, by omega, by go_num, by (repeat (first | with_reducible exact Below.refl _ _ | with_reducible assumption | (with_reducible refine Below.drew ?_) | (with_reducible refine Below.manyDrew ?_ _) | ((with_reducible refine Below.alloc ?_ ?_ _); rotate_left; (focus (first | omega | (dsimp only; omega) | (simp; done) | (simp; omega)))) | ((with_reducible refine Below.setCell ?_ ?_ _); rotate_left; (focus (first | omega | (dsimp only; omega) | (simp; done) | (simp; omega)))) | ((with_reducible refine Below.step ?_ (by assumption) ?_); rotate_left; (focus (first | omega | (dsimp only; omega) | (simp; done) | (simp; omega))))))⟩
        case measure => simp [intOf]; omega
      · obtain rfl : k = s.xs.length := by omega
        go_wp2_with fail
        go_ret
        exact ⟨rfl, by (repeat (first | with_reducible exact Below.refl _ _ | with_reducible assumption | (with_reducible refine Below.drew ?_) | (with_reducible refine Below.manyDrew ?_ _) | ((with_reducible refine Below.alloc ?_ ?_ _); rotate_left; (focus (first | omega | (dsimp only; omega) | (simp; done) | (simp; omega)))) | ((with_reducible refine Below.setCell ?_ ?_ _); rotate_left; (focus (first | omega | (dsimp only; omega) | (simp; done) | (simp; omega)))) | ((with_reducible refine Below.step ?_ (by assumption) ?_); rotate_left; (focus (first | omega | (dsimp only; omega) | (simp; done) | (simp; omega))))))⟩
  · have he := errV_ne hc
    have He := hid he
    clear he hc
    go_enter Try.func3, Try.ntmps3
    go_wp2_with fail
    refine (stale_zero s _ hs).mono ?_; rintro e w1 ⟨rfl, hb1⟩; obtain ⟨hc1, hf1⟩ := bcell hb1; have hz1 := hb1.size; (try simp only [World.size_alloc] at hz1); (try simp only [World.size_setCell] at hz1)
    rw [He.out]
    go_wp2_with fail
    refine (ccheck_any s _ (hs.stays hb1)).mono ?_; rintro e w2 ⟨rfl, hb2⟩; obtain ⟨hc2, hf2⟩ := bcell hb2; have hz2 := hb2.size; (try simp only [World.size_alloc] at hz2); (try simp only [World.size_setCell] at hz2)
    rw [He.out]
    go_wp2_with fail
    go_ret
    exact ⟨rfl, by (repeat (first | with_reducible exact Below.refl _ _ | with_reducible assumption | (with_reducible refine Below.drew ?_) | (with_reducible refine Below.manyDrew ?_ _) | ((with_reducible refine Below.alloc ?_ ?_ _); rotate_left; (focus (first | omega | (dsimp only; omega) | (simp; done) | (simp; omega)))) | ((with_reducible refine Below.setCell ?_ ?_ _); rotate_left; (focus (first | omega | (dsimp only; omega) | (simp; done) | (simp; omega)))) | ((with_reducible refine Below.step ?_ (by assumption) ?_); rotate_left; (focus (first | omega | (dsimp only; omega) | (simp; done) | (simp; omega))))))⟩

set_option maxRecDepth 100000 in
theorem freshNone_walk : LawWalk Try.prog 3 Try.f3 (fun _ => True) := by
  intro W base args H enc ds p hval hA _
  rw [Try.params3] at hA hval
  obtain ⟨v0, d0, rfl, rfl, h0⟩ := trodAll_one hA
  obtain ⟨s, rfl, hs⟩ := arg_slice Try.underlying22 codecEntry (pos_of_eq Try.cellsEntry (by decide)) (hval 0 22 v0 rfl rfl) h0
  exact freshNone_any s W (entriesAt_of hs)

set_option maxRecDepth 100000 in
theorem freshNone_lifted (os : Os) (started : os.Started) (H : Type) (enc : TypeId × Value → H) :
    ReturnsInHanded {} Try.checked os 3 .any (Rows.freshNoneSpec.pre6 enc Try.prog Try.f3 Rows.freshNoneRow.domain false) (Rows.freshNoneSpec.post enc Try.prog Try.f3 false true false false) :=
  law_lifted (C := Try.checked) Rows.freshNoneRow.domain Try.own started (by kernel_rfl) Try.func3 Try.laidOut (by kernel_rfl) rfl Try.underlying4 rfl (fun ds h => by match ds, h with | [_], _ => rfl)
    (ChangeSpec.witness6 (enc := enc) (C := Try.checked) false ⟨#[], #[.slice none 0 0], []⟩ 8 (by kernel_rfl) (by kernel_rfl) (by kernel_rfl) (by kernel_rfl)) freshNone_walk

theorem freshNone_holds : Rows.FreshNoneSaid :=
  OpenClaim.holds_of_wide 3 Try.f3 rfl rfl rfl rfl rfl rfl rfl ⟨rfl, rfl, rfl, rfl, rfl⟩ rfl rfl rfl rfl rfl (by kernel_rfl) Try.func3 (by kernel_rfl)
    (of_decide_eq_true (by kernel_rfl)) (by unfold Func.isWrapper; rw [if_neg (of_decide_eq_false (by kernel_rfl))]; exact ⟨rfl, rfl⟩)
    (fun os started H enc _ => freshNone_lifted os started H enc)

end Go.Proofs.Ytgjnpheapgokhaa
