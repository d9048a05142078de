/-
  PROVED HERE: merelaw4.RepairOne returns true for all entries and every key: of one cache it is its own, and none lacks it. CONDITIONS: none.
-/
import Derived.Test.YtgjnpheapgokhaaLacks
namespace Go.Proofs.Ytgjnpheapgokhaa
open Go.RowKit
open Go.ChangeShapes Go.WideShapes Go.ChangeAt

theorem CachesAt.one {w : World} {s : SlV E} (hs : EntriesAt w s) {b : Nat} (hb : b < w.heap.size) (hc : w.cell? ⟨b, 0, none⟩ = some (.slice s.A s.xs.length s.c)) : CachesAt w ⟨some ⟨b, 0, none⟩, 1, [s]⟩ :=
  ⟨fun _ => ⟨b, 0, rfl, hb, fun i hi => by
      have h0 : i = 0 := by simpa using hi
      subst h0
      exact hc⟩, fun i hi => by
      have h0 : i = 0 := by simpa using hi
      subst h0
      exact hs, by simp [maxLen]⟩

set_option maxHeartbeats 400000 in
theorem repairOne_any (s : SlV E) (k : Int) (w : World) (hs : EntriesAt w s) :
    Calls Try.prog 5 #[.slice s.A s.xs.length s.c, .int .i64 k] w fun e w' => e = .returned (.bool true) ∧ Below w.heap.size w w' := by
  obtain ⟨r, hr⟩ : ∃ r, getR s.xs k = r := ⟨_, rfl⟩
  obtain ⟨⟨xk, xv, xa, xg, xt⟩, n⟩ := r
  have hR1 := (readR_one s k).trans hr
  have HR1 := hid hR1
  have Hr := hid hr
  clear hr hR1
  by_cases hn : n = 0
  · subst hn
    go_enter Try.func5, Try.ntmps5
    go_wp2_with fail
    have hbA : Below w.heap.size w (w.alloc (.cells #[.slice s.A s.xs.length s.c] 22)) := by (repeat (first | with_reducible exact Below.refl _ _ | with_reducible assumption | (with_reducible refine Below.drew ?_) | (with_reducible refine Below.manyDrew ?_ _) | ((with_reducible refine Below.alloc ?_ ?_ _); rotate_left; (focus (first | omega | (dsimp only; omega) | (simp; done) | (simp; omega)))) | ((with_reducible refine Below.setCell ?_ ?_ _); rotate_left; (focus (first | omega | (dsimp only; omega) | (simp; done) | (simp; omega)))) | ((with_reducible refine Below.step ?_ (by assumption) ?_); rotate_left; (focus (first | omega | (dsimp only; omega) | (simp; done) | (simp; omega))))))
    have hsA := hs.stays hbA
    have hCA := CachesAt.one hsA (b := w.heap.size) (by simp) (by simp [go_sem])
    have hrd := read_one _ k _ hCA rfl
    simp only [List.length_cons, List.length_nil] at hrd
    rw [HR1.out] at hrd
    simp only [E.val] at hrd
    refine hrd.mono ?_
    clear hrd
    rintro e w1 ⟨rfl, hb1⟩; obtain ⟨hc1, hf1⟩ := bcell hb1; have hz1 := hb1.size; (try simp only [World.size_alloc] at hz1); (try simp only [World.size_setCell] at hz1)
    rw [show errV 0 = .nilIface from rfl]
    go_wp2_with fail
    have hg := get_any s k (w1.alloc (.cells #[.int .i64 xk, .int .i64 xv, .int .i64 xa, .bool xg, .string xt] 30)) (hs.stays (by (repeat (first | with_reducible exact Below.refl _ _ | with_reducible assumption | (with_reducible refine Below.drew ?_) | (with_reducible refine Below.manyDrew ?_ _) | ((with_reducible refine Below.alloc ?_ ?_ _); rotate_left; (focus (first | omega | (dsimp only; omega) | (simp; done) | (simp; omega)))) | ((with_reducible refine Below.setCell ?_ ?_ _); rotate_left; (focus (first | omega | (dsimp only; omega) | (simp; done) | (simp; omega)))) | ((with_reducible refine Below.step ?_ (by assumption) ?_); rotate_left; (focus (first | omega | (dsimp only; omega) | (simp; done) | (simp; omega))))))))
    rw [Hr.out] at hg
    simp only [E.val] at hg
    refine hg.mono ?_
    clear hg
    rintro e w2 ⟨rfl, hb2⟩; obtain ⟨hc2, hf2⟩ := bcell hb2; have hz2 := hb2.size; (try simp only [World.size_alloc] at hz2); (try simp only [World.size_setCell] at hz2)
    rw [show errV 0 = .nilIface from rfl]
    go_wp2_with fail
    have hl := lacks_one (some ⟨w2.heap.size + 1, 0, none⟩) 1 s k ⟨xk, xv, xa, xg, xt⟩ ((w2.alloc (.cells #[.int .i64 xk, .int .i64 xv, .int .i64 xa, .bool xg, .string xt] 30)).alloc (.cells #[.slice s.A s.xs.length s.c] 22)) (CachesAt.one (hs.stays (by (repeat (first | with_reducible exact Below.refl _ _ | with_reducible assumption | (with_reducible refine Below.drew ?_) | (with_reducible refine Below.manyDrew ?_ _) | ((with_reducible refine Below.alloc ?_ ?_ _); rotate_left; (focus (first | omega | (dsimp only; omega) | (simp; done) | (simp; omega)))) | ((with_reducible refine Below.setCell ?_ ?_ _); rotate_left; (focus (first | omega | (dsimp only; omega) | (simp; done) | (simp; omega)))) | ((with_reducible refine Below.step ?_ (by assumption) ?_); rotate_left; (focus (first | omega | (dsimp only; omega) | (simp; done) | (simp; omega)))))))) (by simp) (by simp [go_sem])) Hr.out
    refine hl.mono ?_
    clear hl
    rintro e w3 ⟨rfl, hb3⟩; obtain ⟨hc3, hf3⟩ := bcell hb3; have hz3 := hb3.size; (try simp only [World.size_alloc] at hz3); (try simp only [World.size_setCell] at hz3)
    have hl1 : w1.heap.size < w2.heap.size := by omega
    have hl2 : w2.heap.size + 1 < w3.heap.size := by omega
    have hl3 : w1.heap.size < w3.heap.size := by omega
    have hl4 : w2.heap.size < w3.heap.size := by omega
    clear hCA hsA hbA
    go_wp2_with fail
    refine (meet_any 5 3 3 _ (by decide)).mono ?_
    rintro e w4 ⟨rfl, hb4⟩; obtain ⟨hc4, hf4⟩ := bcell hb4; have hz4 := hb4.size; (try simp only [World.size_alloc] at hz4); (try simp only [World.size_setCell] at hz4)
    have hl5 : w1.heap.size < w4.heap.size := by omega
    have hl6 : w2.heap.size < w4.heap.size := by omega
    go_wp2_with fail
    refine (meet_any 4 2 2 _ (by decide)).mono ?_
    rintro e w5 ⟨rfl, hb5⟩; obtain ⟨hc5, hf5⟩ := bcell hb5; have hz5 := hb5.size; (try simp only [World.size_alloc] at hz5); (try simp only [World.size_setCell] at hz5)
    have hl7 : w1.heap.size < w5.heap.size := by omega
    have hl8 : w2.heap.size < w5.heap.size := by omega
    have hX := ((((((Blk.new w1 30 #[.int .i64 xk, .int .i64 xv, .int .i64 xa, .bool xg, .string xt]).belowS hb2).alloc _).alloc _).belowS hb3).belowS hb4).belowS hb5
    have hY := ((((Blk.new w2 30 #[.int .i64 xk, .int .i64 xv, .int .i64 xa, .bool xg, .string xt]).alloc _).belowS hb3).belowS hb4).belowS hb5
    have x0 : w5.cell? ⟨w1.heap.size, 0, none⟩ = some (.int .i64 xk) := hX.cell 0
    have y0 : w5.cell? ⟨w2.heap.size, 0, none⟩ = some (.int .i64 xk) := hY.cell 0
    have x1 : w5.cell? ⟨w1.heap.size, 1, none⟩ = some (.int .i64 xv) := hX.cell 1
    have y1 : w5.cell? ⟨w2.heap.size, 1, none⟩ = some (.int .i64 xv) := hY.cell 1
    have x2 : w5.cell? ⟨w1.heap.size, 2, none⟩ = some (.int .i64 xa) := hX.cell 2
    have y2 : w5.cell? ⟨w2.heap.size, 2, none⟩ = some (.int .i64 xa) := hY.cell 2
    have x3 : w5.cell? ⟨w1.heap.size, 3, none⟩ = some (.bool xg) := hX.cell 3
    have y3 : w5.cell? ⟨w2.heap.size, 3, none⟩ = some (.bool xg) := hY.cell 3
    have x4 : w5.cell? ⟨w1.heap.size, 4, none⟩ = some (.string xt) := hX.cell 4
    have y4 : w5.cell? ⟨w2.heap.size, 4, none⟩ = some (.string xt) := hY.cell 4
    clear hX hY hc1 hc2 hc3 hc4 hc5 hf1 hf2 hf3 hf4 hf5
    have htt : (xt.toList == xt.toList) = true := beq_self_eq_true _
    go_wp2_with fail
    go_ret
    exact ⟨rfl, by (repeat (first | with_reducible exact Below.refl _ _ | with_reducible assumption | (with_reducible refine Below.drew ?_) | (with_reducible refine Below.manyDrew ?_ _) | ((with_reducible refine Below.alloc ?_ ?_ _); rotate_left; (focus (first | omega | (dsimp only; omega) | (simp; done) | (simp; omega)))) | ((with_reducible refine Below.setCell ?_ ?_ _); rotate_left; (focus (first | omega | (dsimp only; omega) | (simp; done) | (simp; omega)))) | ((with_reducible refine Below.step ?_ (by assumption) ?_); rotate_left; (focus (first | omega | (dsimp only; omega) | (simp; done) | (simp; omega))))))⟩
  · have He := hid (errV_ne hn)
    have Hn : Hid (n ≠ 0) := hn
    clear hn
    go_enter Try.func5, Try.ntmps5
    go_wp2_with fail
    have hbA : Below w.heap.size w (w.alloc (.cells #[.slice s.A s.xs.length s.c] 22)) := by (repeat (first | with_reducible exact Below.refl _ _ | with_reducible assumption | (with_reducible refine Below.drew ?_) | (with_reducible refine Below.manyDrew ?_ _) | ((with_reducible refine Below.alloc ?_ ?_ _); rotate_left; (focus (first | omega | (dsimp only; omega) | (simp; done) | (simp; omega)))) | ((with_reducible refine Below.setCell ?_ ?_ _); rotate_left; (focus (first | omega | (dsimp only; omega) | (simp; done) | (simp; omega)))) | ((with_reducible refine Below.step ?_ (by assumption) ?_); rotate_left; (focus (first | omega | (dsimp only; omega) | (simp; done) | (simp; omega))))))
    have hsA := hs.stays hbA
    have hCA := CachesAt.one hsA (b := w.heap.size) (by simp) (by simp [go_sem])
    have hrd := read_one _ k _ hCA rfl
    simp only [List.length_cons, List.length_nil] at hrd
    rw [HR1.out] at hrd
    simp only [E.val, He.out] at hrd
    refine hrd.mono ?_
    clear hrd
    rintro e w1 ⟨rfl, hb1⟩; obtain ⟨hc1, hf1⟩ := bcell hb1; have hz1 := hb1.size; (try simp only [World.size_alloc] at hz1); (try simp only [World.size_setCell] at hz1)
    go_wp2_with fail
    have hg := get_any s k (w1.alloc (.cells #[.int .i64 xk, .int .i64 xv, .int .i64 xa, .bool xg, .string xt] 30)) (hs.stays (by (repeat (first | with_reducible exact Below.refl _ _ | with_reducible assumption | (with_reducible refine Below.drew ?_) | (with_reducible refine Below.manyDrew ?_ _) | ((with_reducible refine Below.alloc ?_ ?_ _); rotate_left; (focus (first | omega | (dsimp only; omega) | (simp; done) | (simp; omega)))) | ((with_reducible refine Below.setCell ?_ ?_ _); rotate_left; (focus (first | omega | (dsimp only; omega) | (simp; done) | (simp; omega)))) | ((with_reducible refine Below.step ?_ (by assumption) ?_); rotate_left; (focus (first | omega | (dsimp only; omega) | (simp; done) | (simp; omega))))))))
    rw [Hr.out] at hg
    simp only [E.val, He.out] at hg
    refine hg.mono ?_
    clear hg
    rintro e w2 ⟨rfl, hb2⟩; obtain ⟨hc2, hf2⟩ := bcell hb2; have hz2 := hb2.size; (try simp only [World.size_alloc] at hz2); (try simp only [World.size_setCell] at hz2)
    go_wp2_with fail
    go_ret
    exact ⟨rfl, by (repeat (first | with_reducible exact Below.refl _ _ | with_reducible assumption | (with_reducible refine Below.drew ?_) | (with_reducible refine Below.manyDrew ?_ _) | ((with_reducible refine Below.alloc ?_ ?_ _); rotate_left; (focus (first | omega | (dsimp only; omega) | (simp; done) | (simp; omega)))) | ((with_reducible refine Below.setCell ?_ ?_ _); rotate_left; (focus (first | omega | (dsimp only; omega) | (simp; done) | (simp; omega)))) | ((with_reducible refine Below.step ?_ (by assumption) ?_); rotate_left; (focus (first | omega | (dsimp only; omega) | (simp; done) | (simp; omega))))))⟩

set_option maxRecDepth 100000 in
theorem repairOne_walk : LawWalk Try.prog 5 Try.f5 (fun _ => True) := by
  intro W base args H enc ds p hval hA _
  rw [Try.params5] at hA hval
  obtain ⟨v0, v1, d0, d1, p0, p1, rfl, rfl, rfl, h0, h1⟩ := trodAll_two hA
  obtain ⟨s, rfl, hs⟩ := arg_slice Try.underlying22 codecEntry (pos_of_eq Try.cellsEntry (by decide)) (hval 0 22 v0 rfl rfl) h0
  obtain ⟨k, rfl, _⟩ := arg_int Try.underlying3 (hval 1 3 v1 rfl rfl) h1
  exact repairOne_any s k W (entriesAt_of hs)

set_option maxRecDepth 100000 in
theorem repairOne_lifted (os : Os) (started : os.Started) (H : Type) (enc : TypeId × Value → H) :
    ReturnsInHanded {} Try.checked os 5 .any (Rows.repairOneSpec.pre6 enc Try.prog Try.f5 Rows.repairOneRow.domain false) (Rows.repairOneSpec.post enc Try.prog Try.f5 false true false false) :=
  law_lifted (C := Try.checked) Rows.repairOneRow.domain Try.own started (by kernel_rfl) Try.func5 Try.laidOut (by kernel_rfl) rfl Try.underlying4 rfl (fun ds h => by match ds, h with | [_, _], _ => rfl)
    (ChangeSpec.witness6 (enc := enc) (C := Try.checked) false ⟨#[], #[.slice none 0 0, .int .i64 0], []⟩ 8 (by kernel_rfl) (by kernel_rfl) (by kernel_rfl) (by kernel_rfl)) repairOne_walk

theorem repairOne_holds : Rows.RepairOneSaid :=
  OpenClaim.holds_of_wide 5 Try.f5 rfl rfl rfl rfl rfl rfl rfl ⟨rfl, rfl, rfl, rfl, rfl⟩ rfl rfl rfl rfl rfl (by kernel_rfl) Try.func5 (by kernel_rfl)
    (of_decide_eq_true (by kernel_rfl)) (by unfold Func.isWrapper; rw [if_neg (of_decide_eq_false (by kernel_rfl))]; exact ⟨rfl, rfl⟩)
    (fun os started H enc _ => repairOne_lifted os started H enc)

end Go.Proofs.Ytgjnpheapgokhaa
